/- Contracts and plain laws of this seat: part MA. It needs no conditions. -/
import Derived.Test.YtknekjalbninmaaGreatTab
import Derived.Test.YtknekjalbninmaaGreatW1
import Derived.Test.YtknekjalbninmaaGreatB1
import Derived.Test.YtknekjalbninmaaGreatU0
import Derived.Lib.TrimU
import GoSem.Core.Value
import Derived.Test.YtknekjalbninmaaGreatS1
set_option maxHeartbeats 32000000
set_option linter.unusedVariables false
set_option linter.unusedSimpArgs false
set_option linter.unusedSectionVars false
set_option maxRecDepth 100000
namespace Go.V
open Go Go.Proofs
instance:Dr:=⟨false⟩
instance:Ov:=⟨false⟩
@[simp] theorem zkz(n:Int)(k:Sym->Prop):arith .i64 n k=(I64 n/\k (.d (.int .i64 n))):=rfl
@[simp] theorem zk0(n:Int)(k:Sym->Prop):arith .i32 n k=k (.d (.int .i32 (IntKind.i32.wrap n))):=rfl
@[simp] theorem zk4(n:Int)(k:Sym->Prop):arith .u8 n k=k (.d (.int .u8 (IntKind.u8.wrap n))):=rfl
@[simp] theorem zk1(n:Int)(k:Sym->Prop):arith .u32 n k=k (.d (.int .u32 (IntKind.u32.wrap n))):=rfl
@[simp] theorem zk2(n:Int)(k:Sym->Prop):arith .u64 n k=k (.d (.int .u64 (IntKind.u64.wrap n))):=rfl
def int(n:Int):D:=.int .i64 n
def ints(l:List Int):D:=.sl (l.map λn=>[.int .i64 n])
structure Phon where
 name:ByteArray
 feat:Int
 deriving DecidableEq
structure Grap where
 graph:ByteArray
 segs:List Int
 deriving DecidableEq
structure Orth where
 name:ByteArray
 units:List Grap
 letters:List (List ByteArray)
 deriving DecidableEq
structure Cls where
 mask:Int
 value:Int
 deriving DecidableEq
structure Rule where
 src:List Int
 dst:List Int
 left:List Cls
 right:List Cls
 beg:Bool
 fin:Bool
 deriving DecidableEq
structure Stp where
 src:Int
 cls:Int
 dst:Int
 deriving DecidableEq
structure Nett where
 states:Int
 steps:List Stp
 final:List Int
 deriving DecidableEq
structure Sens where
 gloss:ByteArray
 defn:ByteArray
 deriving DecidableEq
structure Lnk where
 kind:Int
 dst:Int
 deriving DecidableEq
structure Rf where
 rcd:Int
 note:Int
 deriving DecidableEq
structure Ent where
 id:Int
 form:List Int
 cls:Int
 alts:List (List Int)
 main:Int
 senses:List Sens
 links:List Lnk
 refs:List Rf
 deriving DecidableEq
structure Lang where
 inv:List Phon
 orth:Orth
 rules:List Rule
 net:Nett
 lex:List Ent
 deriving DecidableEq
structure Prt where
 entry:Int
 alt:Int
 sense:Int
 deriving DecidableEq
def Phon.row(p:Phon):List D:=[.str p.name,int p.feat]
def zI(l:List Phon):D:=.sl (l.map Phon.row)
def Grap.row(u:Grap):List D:=[.str u.graph,ints u.segs]
def zN(l:List Grap):D:=.sl (l.map Grap.row)
def wh(l:List (List ByteArray)):D:=.sl (l.map λr=>[.sl (r.map λs=>[.str s])])
def Orth.cells(o:Orth):List D:=[.str o.name,zN o.units,wh o.letters]
def Cls.row(c:Cls):List D:=[int c.mask,int c.value]
def xc(l:List Cls):D:=.sl (l.map Cls.row)
def Rule.row(r:Rule):List D:=[ints r.src,ints r.dst,xc r.left,xc r.right,.bool r.beg,.bool r.fin]
def yO(l:List Rule):D:=.sl (l.map Rule.row)
def Stp.row(s:Stp):List D:=[int s.src,int s.cls,int s.dst]
def stepsD(l:List Stp):D:=.sl (l.map Stp.row)
def Nett.cells(n:Nett):List D:=[int n.states,stepsD n.steps,ints n.final]
def Sens.row(s:Sens):List D:=[.str s.gloss,.str s.defn]
def zZ(l:List Sens):D:=.sl (l.map Sens.row)
def Lnk.row(s:Lnk):List D:=[int s.kind,int s.dst]
def x4(l:List Lnk):D:=.sl (l.map Lnk.row)
def Rf.row(s:Rf):List D:=[int s.rcd,int s.note]
def jo(l:List Rf):D:=.sl (l.map Rf.row)
def yl(l:List (List Int)):D:=.sl (l.map λa=>[ints a])
def Ent.row(e:Ent):List D:=[int e.id,ints e.form,int e.cls,yl e.alts,int e.main,zZ e.senses,x4 e.links,jo e.refs]
def zm(l:List Ent):D:=.sl (l.map Ent.row)
def Lang.d(g:Lang):D:=.agg [zI g.inv,.str g.orth.name,zN g.orth.units,wh g.orth.letters,yO g.rules,int g.net.states,stepsD g.net.steps,ints g.net.final,zm g.lex]
def Prt.row(p:Prt):List D:=[int p.entry,int p.alt,int p.sense]
def zl(l:List Prt):D:=.sl (l.map Prt.row)
def zM(a:List Prt):D:=.agg [zl a]
def xJ(l:List (List Prt)):D:=.sl (l.map λa=>[zl a])
@[simp ↓] theorem zlm(p:Prop):(true = !true->p)=True:=by simp
@[simp ↓] theorem zln(p:Prop):(false = !false->p)=True:=by simp
@[simp ↓] theorem zlo(p:Prop):(true = !false->p)=p:=by simp
@[simp ↓] theorem zlp(p:Prop):(false = !true->p)=p:=by simp
@[simp ↓] theorem zls(p:Prop):(true=false->p)=True:=by simp
@[simp ↓] theorem zlt(p:Prop):(false=true->p)=True:=by simp
@[simp ↓] theorem zlu(p:Prop):(true=true->p)=p:=by simp
@[simp ↓] theorem zlv(p:Prop):(false=false->p)=p:=by simp
theorem take_snoc{α:Type}{l:List α}{k:Nat}(h:k<l.length):l.take (k+1)=l.take k++[l[k]]:=by
 rw[List.take_add_one,List.getElem?_eq_getElem h];rfl
theorem Ol(l:List Int)(x:Int)(G:l.length<2^62):zj Tryz.prog 293 [ints l,int x] (.bool (decide (x∈l))):=by
 refine zn mixed Tryz.func293 rfl c_293 ?_
 simp[Tryz.f293,ints,int]
 refine zr mixed (λk:Nat=>{n:=17,next:=0,slots:=[(0,.d (ints l)),(1,.d (int x)),(7,.d (ints l)),(8,.d (.int .i64 l.length)),(9,.d (.int .i64 k))],own:=[]})
  (λk=>k<=l.length/\x∉l.take k) (λk=>l.length-k) 0 (by simp) (by simp[ints,int]) ?_
 intro k ⟨F,E⟩
 by_cases H:k<l.length
 .have e1:l[k]?=some l[k]:=List.getElem?_eq_getElem H
  simp+decide[ints,int,H,I64];refine⟨λh=>?_,λh=>⟨by omega,k+1,⟨H,?_⟩,by omega,by omega⟩⟩
  .rw[<-h];exact List.getElem_mem H
  .rw[take_snoc H,List.mem_append,not_or];exact⟨E,by simpa using λe=>h e.symm⟩
 .have:k=l.length:=by omega
  subst this;simp+decide[ints,int];simpa using E
theorem Om(l:List Int)(x:Int)(G:l.length<2^62):zj Tryz.prog 260 [ints l,int x] (.bool (decide (x∈l))):=by
 refine zn mixed Tryz.func260 rfl c_260 ?_
 simp[Tryz.f260,ints,int]
 refine zr mixed (λk:Nat=>{n:=18,next:=0,slots:=[(0,.d (ints l)),(1,.d (int x)),(7,.d (.int .i64 l.length)),(8,.d (.int .i64 k))],own:=[]})
  (λk=>k<=l.length/\x∉l.take k) (λk=>l.length-k) 0 (by simp) (by simp[ints,int]) ?_
 intro k ⟨F,E⟩
 by_cases H:k<l.length
 .have e1:l[k]?=some l[k]:=List.getElem?_eq_getElem H
  simp+decide[ints,int,H,I64];refine⟨λh=>?_,λh=>⟨by omega,k+1,⟨H,?_⟩,by omega,by omega⟩⟩
  .rw[<-h];exact List.getElem_mem H
  .rw[take_snoc H,List.mem_append,not_or];exact⟨E,by simpa using λe=>h e.symm⟩
 .have:k=l.length:=by omega
  subst this;simp+decide[ints,int];simpa using E
theorem Dq(a b:List Int)(F:b.length<2^62):zj Tryz.prog 171 [ints a,ints b] (.bool (decide (a=b))):=by
 refine zn mixed Tryz.func171 rfl c_171 ?_
 simp[Tryz.f171,ints]
 refine⟨λh e=>h (by rw[e]),λh=>?_⟩
 refine zr mixed (λk:Nat=>{n:=26,next:=0,slots:=[(0,.d (ints a)),(1,.d (ints b)),(12,.d (.int .i64 a.length)),(13,.d (.int .i64 k))],own:=[]})
  (λk=>k<=a.length/\a.take k=b.take k) (λk=>a.length-k) 0 (by simp) (by simp[ints]) ?_
 intro k ⟨E,K⟩
 have h:a.length=b.length:=by omega
 by_cases G:k<a.length
 .have e1:a[k]?=some a[k]:=List.getElem?_eq_getElem G
  have e2:b[k]?=some (b[k]'(by omega)):=List.getElem?_eq_getElem (by omega)
  have H:k<b.length:=by omega
  simp+decide[ints,G,H,I64];refine⟨λhne e=>hne (by subst e;rfl),λhe=>⟨by omega,k+1,⟨G,?_⟩,by omega,by omega⟩⟩
  rw[take_snoc G,take_snoc H,K,he]
 .have:k=a.length:=by omega
  subst this;simp+decide[ints];rw[List.take_length,h,List.take_length] at K;exact K
def J1:List Int->List Int->Bool
 |a::l,b::m=>if a=b then J1 l m else decide (a<b)
 | [],_::_=>true
 |_,[]=>false
def yS(inv:List Phon)(n:Int):Bool:=decide (1<=n)&&decide (n<=inv.length)
theorem J2(inv:List Phon)(n:Int):zj Tryz.prog 197 [.agg [zI inv],int n] (.bool (yS inv n)):=by
 refine zn mixed Tryz.func197 rfl c_197 ?_
 simp[Tryz.f197,zI,int,yS]
 omega
theorem Ds(inv:List Phon)(n:Int):zj Tryz.prog 284 [.agg [zI inv],int n] (.bool (yS inv n)):=by
 refine zn mixed Tryz.func284 rfl c_284 ?_
 simp[Tryz.f284,zI,int,yS]
 omega
theorem Qb(n:Int):zj Tryz.prog 123 [int n] (.bool false):=by
 refine zn mixed Tryz.func123 rfl c_123 ?_
 simp[Tryz.f123,int]
def xK(a b:Int):Int:=if a<b then -1 else if b<a then 1 else 0
theorem gI(a b:Int):zj Tryz.prog 67 [int a,int b] (int (xK a b)):=by
 refine zn mixed Tryz.func67 rfl c_67 ?_
 simp[Tryz.f67,int]
 refine zg (Qb a) ?_
 simp
 refine zg (Qb b) ?_
 simp[xK]
 refine⟨λh h'=>by omega,λh=>by omega⟩
def x5(l:List Ent)(id:Int):Int:=match l.findIdx? (·.id=id) with
 |some k=>k
 |none=>-1
theorem KA{l:List Ent}{id:Int}{k:Nat}(h:k<l.length)(H:∀ e∈l.take k,e.id≠id)(G:l[k].id=id):l.findIdx? (·.id=id)=some k:=by
 rw[List.findIdx?_eq_some_iff_getElem]
 refine⟨h,by simpa using G,λj hj=>?_⟩
 have:=H l[j] (by rw[List.mem_take_iff_getElem];exact⟨j,by omega,rfl⟩)
 simpa using this
theorem KB{l:List Ent}{id:Int}(H:∀ e∈l,e.id≠id):l.findIdx? (·.id=id)=none:=by
 rw[List.findIdx?_eq_none_iff];intro e G;simpa using H e G
theorem kq{α:Type}{p:α->Prop}{l:List α}{k:Nat}(h:k<l.length)(H:∀ e∈l.take k,p e)(G:p l[k]):∀ e∈l.take (k+1),p e:=by
 rw[take_snoc h]
 intro e F
 rcases List.mem_append.1 F with F | F
 .exact H e F
 .simp at F;rw[F];exact G
theorem J3(l:List Ent)(id:Int)(G:l.length<2^62):zj Tryz.prog 110 [zm l,int id] (int (x5 l id)):=by
 refine zn mixed Tryz.func110 rfl c_110 ?_
 simp[Tryz.f110,zm,int]
 refine zr mixed (λk:Nat=>{n:=20,next:=0,slots:=[(0,.d (zm l)),(1,.d (int id)),(5,.d (.int .i64 k))],own:=[]})
  (λk=>k<=l.length/\∀ e∈l.take k,e.id≠id) (λk=>l.length-k) 0 (by simp) (by simp[zm,int]) ?_
 intro k ⟨F,E⟩
 by_cases H:k<l.length
 .have e1:l[k]?=some l[k]:=List.getElem?_eq_getElem H
  simp+decide[zm,Ent.row,int,H,I64];refine⟨λh=>?_,λh=>⟨by omega,k+1,⟨H,kq H E h⟩,by omega,by omega⟩⟩
  simp[x5,KA H E h]
 .have:k=l.length:=by omega
  subst this;simp+decide[zm,int];simp[x5,KB (by simpa using E)]
theorem KC(l:List Ent)(id:Int)(G:l.length<2^62):zj Tryz.prog 152 [zm l,int id] (int (x5 l id)):=by
 refine zn mixed Tryz.func152 rfl c_152 ?_
 simp[Tryz.f152,zm,int]
 refine zr mixed (λk:Nat=>{n:=20,next:=0,slots:=[(0,.d (zm l)),(1,.d (int id)),(5,.d (.int .i64 k))],own:=[]})
  (λk=>k<=l.length/\∀ e∈l.take k,e.id≠id) (λk=>l.length-k) 0 (by simp) (by simp[zm,int]) ?_
 intro k ⟨F,E⟩
 by_cases H:k<l.length
 .have e1:l[k]?=some l[k]:=List.getElem?_eq_getElem H
  simp+decide[zm,Ent.row,int,H,I64];refine⟨λh=>?_,λh=>⟨by omega,k+1,⟨H,kq H E h⟩,by omega,by omega⟩⟩
  simp[x5,KA H E h]
 .have:k=l.length:=by omega
  subst this;simp+decide[zm,int];simp[x5,KB (by simpa using E)]
theorem On(a b:List Prt)(E:b.length<2^62):zj Tryz.prog 242 [zl a,zl b] (.bool (decide (a=b))):=by
 refine zn mixed Tryz.func242 rfl c_242 ?_
 simp[Tryz.f242,zl]
 refine⟨λh e=>h (by rw[e]),λh=>?_⟩
 refine zr mixed (λk:Nat=>{n:=26,next:=0,slots:=[(0,.d (zl a)),(1,.d (zl b)),(12,.d (.int .i64 a.length)),(13,.d (.int .i64 k))],own:=[]})
  (λk=>k<=a.length/\a.take k=b.take k) (λk=>a.length-k) 0 (by simp) (by simp[zl]) ?_
 intro k ⟨K,J⟩
 have h:a.length=b.length:=by omega
 by_cases G:k<a.length
 .have e1:a[k]?=some a[k]:=List.getElem?_eq_getElem G
  have e2:b[k]?=some (b[k]'(by omega)):=List.getElem?_eq_getElem (by omega)
  have H:k<b.length:=by omega
  simp+decide[zl,Prt.row,int,G,H,I64];refine⟨λF e=>by subst e;simp at F,λL M h3=>⟨by omega,k+1,⟨G,?_⟩,by omega,by omega⟩⟩
  have O:a[k]=b[k]:=by
   rcases Q:a[k] with⟨x1,x2,x3⟩;rcases T:b[k] with⟨y1,y2,y3⟩;rw[Q,T] at L M h3;simp only at L M h3
   rw[L,M,h3]
  rw[take_snoc G,take_snoc H,J,O]
 .have:k=a.length:=by omega
  subst this;simp+decide[zl];rw[List.take_length,h,List.take_length] at J;exact J
def vZ(inv:List Phon)(n:Int)(c:Cls):Bool:=yS inv n&&(match inv[n.toNat-1]? with
 |some p=>decide (c.value=jC .and .i64 p.feat c.mask)
 |none=>false)
theorem Oo(inv:List Phon)(n:Int)(c:Cls)(F:inv.length<2^62):zj Tryz.prog 291 [.agg [zI inv],int n,.agg c.row] (.bool (vZ inv n c)):=by
 refine zn mixed Tryz.func291 rfl c_291 ?_
 simp+decide[Tryz.f291,int,Cls.row]
 refine scp (Ds inv n) ?_
 by_cases hs:yS inv n=true
 .have G:=hs
  simp only[yS,Bool.and_eq_true,decide_eq_true_eq] at G;have H:n.toNat-1<inv.length:=by omega
  have e1:inv[n.toNat-1]?=some inv[n.toNat-1]:=List.getElem?_eq_getElem H
  have e2:¬n<1:=by omega
  simp+decide[zI,hs,H,Phon.row,int,I64,vZ];omega
 .simp+decide[hs,vZ]
def Ent.zero:Ent:=⟨0,[],0,[],0,[],[],[]⟩
def zG(l:List Ent)(id:Int):Ent×Bool:=match l.find? (·.id=id) with
 |some e=>(e,true)
 |none=>(Ent.zero,false)
theorem Oq{l:List Ent}{id:Int}{k:Nat}(h:k<l.length)(H:∀ e∈l.take k,e.id≠id)(G:l[k].id=id):l.find? (·.id=id)=some l[k]:=by
 rw[List.find?_eq_some_iff_getElem]
 refine⟨by simpa using G,k,h,rfl,λj hj=>?_⟩
 have:=H l[j] (by rw[List.mem_take_iff_getElem];exact⟨j,by omega,rfl⟩)
 simpa using this
theorem Ot{l:List Ent}{id:Int}(H:∀ e∈l,e.id≠id):l.find? (·.id=id)=none:=by
 rw[List.find?_eq_none];intro e G;simpa using H e G
theorem J4(l:List Ent)(id:Int)(G:l.length<2^62):zj Tryz.prog 47 [zm l,int id] (.tup [.agg (zG l id).1.row,.bool (zG l id).2]):=by
 refine zn mixed Tryz.func47 rfl c_47 ?_
 simp[Tryz.f47,zm,int,Value.oneCell']
 refine zr mixed (λk:Nat=>{n:=25,next:=1,slots:=[(0,.d (zm l)),(1,.d (int id)),(4,.bp 0 0),(8,.d (.int .i64 l.length)),(9,.d (.int .i64 k))],own:=[(0,.box 102 [.d (int 0),.nils,.d (int 0),.nils,.d (int 0),.nils,.nils,.nils])]})
  (λk=>k<=l.length/\∀ e∈l.take k,e.id≠id) (λk=>l.length-k) 0 (by simp) (by simp[zm,int]) ?_
 intro k ⟨F,E⟩
 by_cases H:k<l.length
 .have e1:l[k]?=some l[k]:=List.getElem?_eq_getElem H
  simp+decide[zm,Ent.row,int,H,I64];refine⟨λh=>?_,λh=>⟨by omega,k+1,⟨H,kq H E h⟩,by omega,by omega⟩⟩
  simp[zG,Oq H E h]
 .have:k=l.length:=by omega
  subst this;simp+decide[zm,int];simp[zG,Ot (by simpa using E),Ent.zero,Ent.row,int,ints,yl,zZ,x4,jo]
theorem Ou(a b:List Prt)(H:b.length<2^62):zj Tryz.prog 221 [zM a,zM b] (.bool (decide (a=b))):=by
 refine zn mixed Tryz.func221 rfl c_221 ?_
 simp[Tryz.f221,zM]
 refine zg (On a b H) ?_
 simp
def Zz(l:List Rule):Bool:=l.any λr=>decide (0∈r.dst)
theorem Ow{α:Type}{p:α->Bool}{l:List α}{k:Nat}(h:k<l.length)(H:p l[k]=true):l.any p=true:=List.any_eq_true.2 ⟨_,List.getElem_mem h,H⟩
theorem Ox(l:List Rule)(G:l.length<2^62)(hs:∀ r∈l,r.dst.length<2^62):zj Tryz.prog 287 [yO l] (.bool (Zz l)):=by
 refine zn mixed Tryz.func287 rfl c_287 ?_
 simp[Tryz.f287,yO]
 refine zr mixed (λk:Nat=>{n:=15,next:=0,slots:=[(5,.d (yO l)),(6,.d (.int .i64 l.length)),(7,.d (.int .i64 k))],own:=[]})
  (λk=>k<=l.length/\∀ r∈l.take k,0∉r.dst) (λk=>l.length-k) 0 (by simp) (by simp[yO]) ?_
 intro k ⟨F,E⟩
 by_cases H:k<l.length
 .have e1:l[k]?=some l[k]:=List.getElem?_eq_getElem H
  simp+decide[yO,Rule.row,H];refine zg (Ol l[k].dst 0 (hs _ (List.getElem_mem H))) ?_
  simp+decide[I64];refine⟨λh=>?_,λh=>⟨by omega,k+1,⟨H,kq H E h⟩,by omega,by omega⟩⟩
  exact(Ow H (by simpa using h))
 .have:k=l.length:=by omega
  subst this;simp+decide[yO];simp only[List.take_length] at E;simp only[Zz,List.any_eq_false];intro r K;simpa using E r K
def Ent.forms(e:Ent):List (List Int):=e.form::e.alts
def qw(a b:Prt):Bool:=if a.entry=b.entry then (if a.alt=b.alt then decide (a.sense<b.sense) else decide (a.alt<b.alt)) else decide (a.entry<b.entry)
theorem Oy(a b:Prt):zj Tryz.prog 208 [.agg a.row,.agg b.row] (.bool (qw a b)):=by
 refine zn mixed Tryz.func208 rfl c_208 ?_
 simp+decide[Tryz.f208,Prt.row,int,qw]
 exact⟨λh H=>absurd H h,λh=>⟨λh2=>by rw[if_pos h,if_neg h2],λh2=>by rw[if_pos h,if_pos h2]⟩⟩
def ya:List Prt->List Prt->Bool
 |a::l,b::m=>if a=b then ya l m else qw a b
 | [],_::_=>true
 |_,[]=>false
theorem Oz{a b:List Prt}{k:Nat}(h:k<a.length)(H:k<b.length):ya (a.drop k) (b.drop k)=if a[k]=b[k] then ya (a.drop (k+1)) (b.drop (k+1)) else qw a[k] b[k]:=by
 rw[List.drop_eq_getElem_cons h,List.drop_eq_getElem_cons H];rfl
theorem Dt{a b:List Prt}{k:Nat}(h:¬(k<a.length/\k<b.length))(H:k<=a.length/\k<=b.length):ya (a.drop k) (b.drop k)=decide (a.length<b.length):=by
 by_cases G:k<b.length
 .have:k=a.length:=by omega
  subst this;rw[List.drop_length,List.drop_eq_getElem_cons G];simp[ya,G]
 .have:k=b.length:=by omega
  subst this;rw[List.drop_length];have:¬a.length<b.length:=by omega
  cases a.drop b.length <;> simp[ya,this]
theorem Du{a b:Prt}:a=b↔a.entry=b.entry/\a.alt=b.alt/\a.sense=b.sense:=by
 cases a;cases b;simp
theorem OA(a b:List Prt)(K:a.length<2^62)(J:b.length<2^62):zj Tryz.prog 168 [zM a,zM b] (.bool (ya a b)):=by
 refine zn mixed Tryz.func168 rfl c_168 ?_
 simp[Tryz.f168,zM,zl]
 refine zr mixed (λk:Nat=>{n:=49,next:=2,slots:=[(2,.bp 0 0),(3,.bp 1 0),(5,.d (.int .i64 k))],own:=[(1,.box 39 [.d (zl b)]),(0,.box 39 [.d (zl a)])]})
  (λk=>k<=a.length/\k<=b.length/\ya a b=ya (a.drop k) (b.drop k)) (λk=>a.length-k) 0 (by simp) (by simp[zl]) ?_
 intro k ⟨L,F,M⟩
 by_cases G:k<a.length
 .by_cases H:k<b.length
  .have e1:a[k]?=some a[k]:=List.getElem?_eq_getElem G
   have e2:b[k]?=some b[k]:=List.getElem?_eq_getElem H
   rw[Oz G H] at M;simp+decide[zl,Prt.row,int,G,H,I64];refine⟨λh=>?_,λO Q T=>⟨by omega,k+1,⟨G,H,?_⟩,by omega,by omega⟩⟩
   .refine scp (Oy a[k] b[k]) ?_
    have E:¬a[k]=b[k]:=λe=>by rw[Du] at e;obtain⟨q1,q2,q3⟩:=e;simp[q1,q2,q3] at h
    simp+decide[M,if_neg E]
   .rw[M,if_pos (Du.2 ⟨O,Q,T⟩)]
  .rw[Dt (λh=>H h.2) ⟨L,F⟩] at M
   simp+decide[zl,G,H,M]
 .rw[Dt (λh=>G h.1) ⟨L,F⟩] at M
  simp+decide[zl,G,M]
theorem Dv:∀ (a:List Prt),ya a a=false
 | []=>rfl
 |a::l=>by simp[ya,Dv l]
theorem yu{α:Type}{l:List α}{k:Nat}(h:k<l.length):l.take (k+1)=l.take k++[l[k]]:=by
 rw[List.take_succ_eq_append_getElem h]
def u32(m:Nat):D:=.int .u32 m
def ku(m:Nat)(q:Int):Bool:=m.testBit q.toNat
def qk(m:Nat)(q:Int):Nat:=m ||| (1 <<< q.toNat)
theorem OB:∀ (m:Fin 8) (q:Fin 3),(decide (jC .and .u32 (Zm .shr .u32 (m.val:Int) (q.val:Int)) 1=1))=m.val.testBit q.val:=by decide +kernel
theorem OC:∀ (m:Fin 8) (q:Fin 3),jC .or .u32 (m.val:Int) (Zm .shl .u32 1 (q.val:Int))=((m.val ||| (1 <<< q.val):Nat):Int):=by decide +kernel
theorem OD:∀ (m:Fin 8) (q:Fin 3),m.val ||| (1 <<< q.val)<8:=by decide +kernel
theorem Dw{m:Nat}{q:Int}(H:m<8)(G:0<=q)(F:q<3):(decide (jC .and .u32 (Zm .shr .u32 (m:Int) q) 1=1))=ku m q:=by
 have:=OB ⟨m,H⟩ ⟨q.toNat,by omega⟩
 simp only[show((q.toNat:Nat):Int)=q by omega] at this
 exact this
theorem KD{m:Nat}{q:Int}(H:m<8)(G:0<=q)(F:q<3):jC .or .u32 (m:Int) (Zm .shl .u32 1 q)=((qk m q:Nat):Int):=by
 have:=OC ⟨m,H⟩ ⟨q.toNat,by omega⟩
 simp only[show((q.toNat:Nat):Int)=q by omega] at this
 exact this
theorem Dx{m:Nat}{q:Int}(H:m<8)(G:0<=q)(F:q<3):qk m q<8:=OD ⟨m,H⟩ ⟨q.toNat,by omega⟩
theorem OE(m:Nat)(q:Int)(H:m<8)(G:0<=q)(F:q<3):zj Tryz.prog 265 [u32 m,int q] (.bool (ku m q)):=by
 refine zn mixed Tryz.func265 rfl c_265 ?_
 simp+decide[Tryz.f265,u32,int]
 have E:IntKind.u64.wrap q=q:=by rw[IntKind.wrap_u64];omega
 rw[E]
 exact .inl ⟨G,Dw H G F⟩
theorem Dy(m:Nat)(q:Int)(H:m<8)(G:0<=q)(F:q<3):zj Tryz.prog 204 [u32 m,int q] (u32 (qk m q)):=by
 refine zn mixed Tryz.func204 rfl c_204 ?_
 simp+decide[Tryz.f204,u32,int]
 have E:IntKind.u64.wrap q=q:=by rw[IntKind.wrap_u64];omega
 rw[E]
 exact .inl ⟨G,KD H G F⟩
abbrev KE(n:Nett)(m:Nat):D:=.fn 264 [.ptr n.cells,.ptr [u32 m]]
theorem OF(n:Nett)(m:Nat):zj Tryz.prog 235 [.agg n.cells,u32 m] (KE n m):=by
 refine zn mixed Tryz.func235 rfl c_235 ?_
 simp+decide[Tryz.f235,u32,int,Nett.cells]
def xj(m:Nat)(c:Int)(out:Nat)(s:Stp):Nat:=if ku m s.src=true/\s.cls=c then qk out s.dst else out
def yv(l:List Stp)(m:Nat)(c:Int):Nat:=l.foldl (xj m c) 0
def ZA(l:List Stp):Prop:=∀ s∈l,(0<=s.src/\s.src<3)/\(0<=s.dst/\s.dst<3)
theorem J5{m:Nat}{c:Int}:∀ {l:List Stp} {out:Nat},ZA l->out<8->l.foldl (xj m c) out<8
 | [],out,_,h=>h
 |s::l,out,H,h=>by
  rw[List.foldl_cons];refine J5 (λx hx=>H x (by simp[hx])) ?_
  unfold xj;split
  .have:=(H s (by simp)).2;exact Dx h this.1 this.2
  .exact h
theorem KF{l:List Stp}(h:ZA l)(m:Nat)(c:Int):yv l m c<8:=J5 h (by omega)
def ky(n:Nett)(m:Nat):List Sym:=[.junk,.junk,.junk,.junk,.junk,.bp 2 0,.junk,.bp 1 0,.junk,.junk,.junk,.d (KE n m),.junk,.junk,.junk,.junk,.junk,.junk,.junk,.junk,.junk,.junk]
@[simp] theorem zj3(n:Nett)(m:Nat):Sym.los 3 (ky n m):=by simp[ky,Sym.los,Sym.lo]
noncomputable def j3(n:Nett)(m:Nat)(c:Int)(out:Nat)(s:LoopState):List (Nat×Obj'):=
 [(0,.raw (.lp #[12] (vD Tryz.f203) (vE Tryz.f203) s none) (ky n m)),(1,.box 218 [.d (u32 out)]),(2,.box 3 [.d (int c)])]
theorem OG(n:Nett)(m:Nat)(c:Int)(out:Nat)(H:out<8)(s:Stp)(hs:0<=s.dst/\s.dst<3):
  Zv Tryz.prog 0 [.d (.agg s.row)] (j3 n m c out .ready) 3 (.d (.bool true)) 3 (j3 n m c (if s.cls=c then qk out s.dst else out) .ready) []:=by
 refine VQ (cells:=ky n m) (ps:=#[12]) (aS := vD Tryz.f203) (bd:=vE Tryz.f203) rfl (by simp) (by simp[ky]) (by omega) (by simp[Sym.los,Sym.lo]) ?_
 have G:=Dy out s.dst H hs.1 hs.2
 by_cases F:s.cls=c
 .rw[if_pos F]
  simp+decide[j3,ky,vD,vE,jK,Tryz.f203,Stp.row,int,u32,F];refine zg G ?_
  simp+decide[u32]
 .rw[if_neg F]
  simp+decide[j3,ky,vD,vE,jK,Tryz.f203,Stp.row,int,u32,F]
theorem OH(n:Nett)(m:Nat)(c:Int)(E:ZA n.steps)(J:m<8)(L:n.steps.length<2^40):
  zJ Tryz.prog 264 [.yd 0,.d (.ptr n.cells),.d (.ptr [u32 m])] (j3 n m c 0 .ready) 3 (.d (.tup [])) 3 (j3 n m c (yv n.steps m c) .ready) []:=by
 refine zJ.VU (xW mixed Tryz.func264 rfl c_264 (by simp[Sym.los,Sym.lo]) ?_)
 simp+decide[Tryz.f264,Nett.cells,stepsD,int,u32]
 refine yU mixed (λk:Nat=>{n:=24,next:=3,base:=3,slots:=[(0,.yd 0),(1,.d (.ptr n.cells)),(2,.d (.ptr [u32 m])),(7,.d (stepsD n.steps)),(8,.d (int n.steps.length)),(9,.d (int k))],own:=j3 n m c ((n.steps.take k).foldl (xj m c) 0) .ready})
  (λk=>k<=n.steps.length) (λk=>n.steps.length-k) 0 (by simp) (by simp+decide[int,u32,stepsD,Nett.cells,j3]) ?_
 intro k M
 refine Kh ?_
 by_cases G:k<n.steps.length
 case neg=>
  have:k=n.steps.length:=by omega
  subst this;rw[List.take_length];have O:(n.steps.foldl (xj m c) 0)=yv n.steps m c:=rfl
  rw[O];simp+decide[int,u32,stepsD,Nett.cells,j3]
 have F:(k:Int)<n.steps.length:=by omega
 have hsn:(n.steps.take (k+1)).foldl (xj m c) 0=xj m c ((n.steps.take k).foldl (xj m c) 0) n.steps[k]:=by rw[yu G,List.foldl_append];rfl
 have K:(n.steps.take k).foldl (xj m c) 0<8:=J5 (λx Q=>E x (List.mem_of_mem_take Q)) (by omega)
 obtain⟨s,es⟩:∃ s,n.steps[k]=s:=⟨_,rfl⟩
 have e1:n.steps[k]?=some s:=by rw[List.getElem?_eq_getElem G,es]
 have H:=E s (by rw[<-es];exact List.getElem_mem G)
 rw[es] at hsn
 generalize (n.steps.take k).foldl (xj m c) 0=out at hsn K
 have T:=OE m s.src J H.1.1 H.1.2
 have V:=OG n m c out K s H.2
 simp+decide[int,u32,stepsD,Nett.cells,Stp.row,j3,G,F,es]
 refine zg T ?_
 cases X:ku m s.src with
 |false=>
  have Y:xj m c out s=out:=by unfold xj;rw[if_neg (by rw[X];simp)]
  rw[Y] at hsn;simp+decide[I64];exact⟨⟨by omega,by omega⟩,k+1,G,by omega,by omega,by rw[hsn]⟩
 |true=>
  have Y:xj m c out s=if s.cls=c then qk out s.dst else out:=by unfold xj;rw[X];simp
  rw[Y] at hsn;simp+decide
  refine gx.tO 0 [0,1,2] [.d (.agg s.row)] (j3 n m c out .ready) (by simp[rho]) (by simp[Stp.row,int]) (by simp[Sym.los,Sym.lo]) (by simp[j3,ky,u32,int];rfl) V ?_
  simp+decide[int,u32,j3,ky,I64];exact⟨⟨by omega,by omega⟩,k+1,G,by omega,by omega,by rw[hsn]⟩
theorem OI(n:Nett)(m:Nat)(c:Int)(H:ZA n.steps)(G:m<8)(F:n.steps.length<2^40):
  zj Tryz.prog 203 [.agg n.cells,u32 m,int c] (u32 (yv n.steps m c)):=by
 refine Nn Tryz.func203 rfl c_203 ?_
 refine Zu mixed 2 {n:=22,next:=3,slots:=[(1,.d (u32 m)),(3,.bp 0 0),(5,.bp 1 0),(7,.bp 2 0)],own:=[(0,.box 33 (n.cells.map .d)),(1,.box 3 [.d (int c)]),(2,.box 218 [.d (u32 0)])]} rfl ?_ ?_
 .simp+decide[Tryz.f203,yn,Nett.cells,int,u32]
 simp only[yL]
 refine Kj (Zu mixed 1 {n:=22,next:=3,slots:=[(5,.bp 1 0),(7,.bp 2 0),(11,.d (KE n m))],own:=[(1,.box 3 [.d (int c)]),(2,.box 218 [.d (u32 0)])]} rfl ?_ ?_)
 .simp+decide[yn,Nett.cells,int,u32]
  refine zg (OF n m) ?_
  simp+decide
 simp only[yL]
 refine Kk (Ki (k:=0) (ids:=[3,2,1]) (args0:=[.yd 0,.d (.ptr n.cells),.d (.ptr [u32 m])]) (own0:=j3 n m c 0 .ready) (by rfl) (by simp[rho]) (by simp) (by simp[Sym.los,Sym.lo]) ?_ (OH n m c H G F) ?_)
 .simp+decide[j3,ky,vD,vE,jK,Tryz.f203,u32,int]
 .simp+decide[j3,ky,u32,int]
def yB(l:List Stp)(cs:List Int):Nat:=cs.foldl (λm c=>yv l m c) 1
def yk(l:List Int):Nat:=l.foldl qk 0
theorem KG{l:List Stp}(h:ZA l):∀ (cs:List Int) (m:Nat),m<8->cs.foldl (λm c=>yv l m c) m<8
 | [],m,hm=>hm
 |c::cs,m,hm=>by rw[List.foldl_cons];exact KG h cs _ (KF h m c)
theorem ZB:∀ (l:List Int) (m:Nat),(∀ q∈l,0<=q/\q<3)->m<8->l.foldl qk m<8
 | [],m,_,H=>H
 |q::l,m,h,H=>by
  rw[List.foldl_cons];exact ZB l _ (λx hx=>h x (by simp[hx])) (Dx H (h q (by simp)).1 (h q (by simp)).2)
theorem OJ(n:Nett)(F:ZA n.steps)(K:n.steps.length<2^40)(cs:List Int)(J:cs.length<2^40):zj Tryz.prog 156 [.agg n.cells,ints cs] (u32 (yB n.steps cs)):=by
 refine zn mixed Tryz.func156 rfl c_156 ?_
 simp+decide[Tryz.f156,Nett.cells,int,ints,u32]
 refine zr mixed (λk:Nat=>{n:=20,next:=1,slots:=[(2,.bp 0 0),(5,.d (u32 (yB n.steps (cs.take k)))),(8,.d (ints cs)),(9,.d (int cs.length)),(10,.d (int k))],own:=[(0,.box 33 (n.cells.map .d))]})
  (λk=>k<=cs.length) (λk=>cs.length-k) 0 (by simp) (by simp+decide[int,ints,u32,Nett.cells,yB]) ?_
 intro k L
 by_cases H:k<cs.length
 case neg=>
  have:k=cs.length:=by omega
  subst this;rw[List.take_length];simp+decide[int,ints,u32]
 have G:(k:Int)<cs.length:=by omega
 have hsn:yB n.steps (cs.take (k+1))=yv n.steps (yB n.steps (cs.take k)) cs[k]:=by unfold yB;rw[yu H,List.foldl_append];rfl
 have E:yB n.steps (cs.take k)<8:=KG F _ 1 (by omega)
 obtain⟨c,ec⟩:∃ c,cs[k]=c:=⟨_,rfl⟩
 have e1:cs[k]?=some c:=by rw[List.getElem?_eq_getElem H,ec]
 rw[ec] at hsn
 generalize yB n.steps (cs.take k)=m at hsn E
 have M:=OI n m c F E K
 simp+decide[int,ints,u32,Nett.cells,H,G,ec]
 refine zg M ?_
 simp+decide[u32,I64]
 exact⟨⟨by omega,by omega⟩,k+1,H,by omega,by rw[hsn],by omega⟩
theorem OL(n:Nett)(E:∀ q∈n.final,0<=q/\q<3)(K:n.final.length<2^40):zj Tryz.prog 157 [.agg n.cells] (u32 (yk n.final)):=by
 refine zn mixed Tryz.func157 rfl c_157 ?_
 simp+decide[Tryz.f157,Nett.cells,int,ints,u32]
 refine zr mixed (λk:Nat=>{n:=18,next:=1,slots:=[(3,.d (u32 (yk (n.final.take k)))),(7,.d (ints n.final)),(8,.d (int n.final.length)),(9,.d (int k))],own:=[]})
  (λk=>k<=n.final.length) (λk=>n.final.length-k) 0 (by simp) (by simp+decide[int,ints,u32,yk]) ?_
 intro k J
 by_cases H:k<n.final.length
 case neg=>
  have:k=n.final.length:=by omega
  subst this;rw[List.take_length];simp+decide[int,ints,u32]
 have G:(k:Int)<n.final.length:=by omega
 have hsn:yk (n.final.take (k+1))=qk (yk (n.final.take k)) n.final[k]:=by unfold yk;rw[yu H,List.foldl_append];rfl
 have F:yk (n.final.take k)<8:=ZB _ 0 (λx L=>E x (List.mem_of_mem_take L)) (by omega)
 have M:=E n.final[k] (List.getElem_mem H)
 obtain⟨c,ec⟩:∃ c,n.final[k]=c:=⟨_,rfl⟩
 have e1:n.final[k]?=some c:=by rw[List.getElem?_eq_getElem H,ec]
 rw[ec] at hsn M
 generalize yk (n.final.take k)=m at hsn F
 have O:=Dy m c F M.1 M.2
 simp+decide[int,ints,u32,H,G,ec]
 refine zg O ?_
 simp+decide[u32,I64]
 exact⟨⟨by omega,by omega⟩,k+1,H,by omega,by rw[hsn],by omega⟩
def KH(n:Nett):Prop:=ZA n.steps/\(∀ q∈n.final,0<=q/\q<3)/\n.steps.length<2^40/\n.final.length<2^40
theorem OM:∀ (a b:Fin 8),(jC .and .u32 (a.val:Int) (b.val:Int))=((a.val &&& b.val:Nat):Int):=by decide +kernel
def kz(n:Nett)(cs:List Int):Bool:=decide (yB n.steps cs &&& yk n.final≠0)
theorem ON(n:Nett)(H:KH n)(cs:List Int)(G:cs.length<2^40):zj Tryz.prog 94 [.agg n.cells,ints cs] (.bool (kz n cs)):=by
 obtain⟨F,E,K,J⟩:=H
 have w1:=OJ n F K cs G
 have w2:=OL n E J
 have l1:yB n.steps cs<8:=KG F cs 1 (by omega)
 have l2:yk n.final<8:=ZB _ 0 E (by omega)
 unfold kz
 generalize yB n.steps cs=a at w1 l1 ⊢
 generalize yk n.final=b at w2 l2 ⊢
 have L:=OM ⟨a,l1⟩ ⟨b,l2⟩
 simp only at L
 refine zn mixed Tryz.func94 rfl c_94 ?_
 simp+decide[Tryz.f94,Nett.cells,int,ints]
 refine scp w1 ?_
 simp+decide[u32]
 refine scp w2 ?_
 simp+decide[u32,L]
theorem OO(e:Ent)(id:Int):zj Tryz.prog 98 [.agg e.row,.ptr [int id]] (.bool (decide (e.id=id))):=by
 refine zn mixed Tryz.func98 rfl c_98 ?_
 simp+decide[Tryz.f98,Ent.row,int]
theorem OP(l:List Ent)(id:Int)(F:l.length<2^62):zj Tryz.prog 97 [zm l,.fn 98 [.ptr [int id]]] (int (x5 l id)):=by
 refine zn mixed Tryz.func97 rfl c_97 ?_
 simp[Tryz.f97,zm]
 refine zr mixed (λk:Nat=>{n:=19,next:=0,slots:=[(0,.d (zm l)),(1,.d (.fn 98 [.ptr [int id]])),(6,.d (zm l)),(7,.d (.int .i64 l.length)),(8,.d (.int .i64 k))],own:=[]})
  (λk=>k<=l.length/\∀ e∈l.take k,e.id≠id) (λk=>l.length-k) 0 (by simp) (by simp[zm]) ?_
 intro k ⟨E,K⟩
 by_cases H:k<l.length
 .have G:(k:Int)<l.length:=by omega
  obtain⟨e,ee⟩:∃ e,l[k]=e:=⟨_,rfl⟩;have e1:l[k]?=some e:=by rw[List.getElem?_eq_getElem H,ee]
  simp+decide[zm,Ent.row,int,ee,H,G];refine zg (OO e id) ?_
  by_cases J:e.id=id
  .have:=KA H K (by rw[ee];exact J)
   simp+decide[J,x5,this]
  .simp+decide[J,I64]
   exact⟨⟨by omega,by omega⟩,k+1,⟨H,kq H K (by rw[ee];exact J)⟩,by omega,by omega⟩
 .have:k=l.length:=by omega
  subst this;simp+decide[zm,int];simp[x5,KB (by simpa using K)]
theorem wi(l:List Ent)(id:Int):(x5 l id<0/\zG l id=(Ent.zero,false))\/∃ k:Nat,∃ h:k<l.length,x5 l id=k/\zG l id=(l[k],true):=by
 unfold x5 zG
 cases h:l.findIdx? (·.id=id) with
 |none=>
  left
  rw[List.findIdx?_eq_none_iff] at h;have:l.find? (·.id=id)=none:=by rw[List.find?_eq_none];intro x H;simpa using h x H
  rw[this];exact⟨by simp,rfl⟩
 |some k=>
  right
  rw[List.findIdx?_eq_some_iff_getElem] at h;obtain⟨G,F,E⟩:=h;refine⟨k,G,rfl,?_⟩
  have:l.find? (·.id=id)=some l[k]:=by
   rw[List.find?_eq_some_iff_getElem];exact⟨F,k,G,rfl,λj hj=>by simpa using E j hj⟩
  rw[this]
theorem J6(l:List Ent)(id:Int)(F:l.length<2^40):zj Tryz.prog 42 [zm l,int id] (.tup [.agg (zG l id).1.row,.bool (zG l id).2]):=by
 refine zn mixed Tryz.func42 rfl c_42 ?_
 simp+decide[Tryz.f42,zm,int]
 refine zg (OP l id (by omega)) ?_
 rcases wi l id with⟨E,K⟩ | ⟨k,J,E,K⟩
 .rw[K]
  simp+decide[int,E,Ent.zero,Ent.row,ints,yl,zZ,x4,jo]
 .rw[K,E]
  have H:¬(k:Int)<0:=by omega
  have G:(k:Int)<l.length:=by omega
  simp+decide[int,H,J,G,Ent.row,ints,yl,zZ,x4,jo]
def wj(l:List Ent):Nat->Int->Option (List Sens)
 |0,_=>none
 |f+1,id=>if (zG l id).2=true then (if (zG l id).1.senses≠[] then some (zG l id).1.senses else if (zG l id).1.main=0 then none else wj l f (zG l id).1.main) else none
def xM(l:List Ent)(id:Int):List Sens:=(wj l (l.length+1) id).getD []
theorem OQ(l:List Sens)(H:l.length<2^40):zj Tryz.prog 103 [zZ l] (zZ l):=by
 refine zn mixed Tryz.func103 rfl c_103 ?_
 simp+decide[Tryz.f103,zZ,maxLen]
 exact⟨λa _=>rfl,by omega,by omega⟩
def jL:List Sym:=[.junk,.junk,.junk,.junk,.bp 1 0,.junk,.junk,.junk,.fn 160 [.bp 2 0,.bp 3 0],.junk,.junk,.junk,.junk,.junk,.junk,.junk,.junk]
@[simp] theorem zj4:Sym.los 4 jL:=by simp[jL,Sym.los,Sym.lo]
@[simp] theorem ziw:yp (yA [0,1,2,3] 5) jL=jL:=rfl
noncomputable def vo(s:LoopState)(pd:Option Code):Obj':=.raw (.lp #[9] (vD Tryz.f45) (vE Tryz.f45) s pd) jL
noncomputable def vf(l:List Ent)(id:Int):List (Nat×Obj'):=
 [(0,vo .ready none),(1,.box 98 [.nils]),(2,.box 34 [.d (zm l)]),(3,.box 3 [.d (int id)])]
noncomputable def KI(l:List Ent)(id:Int)(ss:List Sens):List (Nat×Obj'):=
 [(0,vo .done (some .ret)),(1,.box 98 [.d (zZ ss)]),(2,.box 34 [.d (zm l)]),(3,.box 3 [.d (int id)])]
theorem OR(l:List Ent)(id:Int)(e:Ent)(H:e.senses=[]):
  Zv Tryz.prog 0 [.d (.agg e.row)] (vf l id) 4 (.d (.bool true)) 4 (vf l id) []:=by
 refine VQ (cells:=jL) (ps:=#[9]) (aS := vD Tryz.f45) (bd:=vE Tryz.f45) rfl (by simp) (by simp[jL]) (by omega) (by simp[Sym.los,Sym.lo]) ?_
 simp+decide[vf,vo,jL,vD,vE,jK,Tryz.f45,Ent.row,int,H,zZ]
theorem OS(l:List Ent)(id:Int)(e:Ent)(H:e.senses≠[])(G:e.senses.length<2^40):
  Zv Tryz.prog 0 [.d (.agg e.row)] (vf l id) 4 (.d (.bool false)) 4 (KI l id e.senses) []:=by
 refine VQ (cells:=jL) (ps:=#[9]) (aS := vD Tryz.f45) (bd:=vE Tryz.f45) rfl (by simp) (by simp[jL]) (by omega) (by simp[Sym.los,Sym.lo]) ?_
 have F:=OQ e.senses G
 have E:(0:Int)<e.senses.length:=by
  have:e.senses.length≠0:=λe2=>H (List.eq_nil_of_length_eq_zero e2)
  omega
 simp+decide[vf,KI,vo,jL,vD,vE,jK,Tryz.f45,Ent.row,int,H,zZ]
 intro _
 refine zg F ?_
 simp+decide[zZ]
noncomputable def gJ:Option (List Sens)->List (Nat×Obj')
 |none=>[(0,vo .ready none),(1,.box 98 [.nils])]
 |some ss=>[(0,vo .done (some .ret)),(1,.box 98 [.d (zZ ss)])]
theorem OT(l:List Ent)(id:Int)(L:l.length<2^40)(hs:∀ e∈l,e.senses.length<2^40):
  zJ Tryz.prog 160 [.yd 0,.bp 2 0,.bp 3 0] (vf l id) 4 (.d (.tup [])) 4 (gJ (wj l (l.length+1) id)) []:=by
 refine zJ.VU (xW mixed Tryz.func160 rfl c_160 (by simp[Sym.los,Sym.lo]) ?_)
 simp+decide[Tryz.f160,vf,zm,int,I64]
 refine⟨⟨by omega,by omega⟩,?_⟩
 refine yU mixed (λx:Nat×Int=>{n:=33,next:=4,base:=4,slots:=[(0,.yd 0),(1,.bp 2 0),(2,.bp 3 0),(8,.d (int (l.length+1))),(9,.d (int x.1))],own:=vf l x.2})
  (λx=>x.1<=l.length+1/\wj l (l.length+1-x.1) x.2=wj l (l.length+1) id) (λx=>l.length+1-x.1) (0,id) (by simp) (by simp+decide[int,zm,vf,vo]) ?_
 rintro⟨k,i⟩ ⟨M,O⟩
 simp only at M O
 refine Kh ?_
 by_cases J:k<l.length+1
 case neg=>
  have:k=l.length+1:=by omega
  subst this;rw[Nat.sub_self] at O;rw[<-O];simp+decide[int,zm,vf,vo,wj,gJ]
 have E:(k:Int)<l.length+1:=by omega
 rw[show l.length+1-k=(l.length-k)+1 by omega,wj] at O
 have Q:=J6 l i L
 have H:(zG l i).2=true->(zG l i).1∈l:=by
  rcases wi l i with⟨_,T⟩ | ⟨j,hj,_,T⟩
  .rw[T];intro h;cases h
  .rw[T];intro _;exact List.getElem_mem hj
 generalize zG l i=g at O Q H
 obtain⟨e,ok⟩:=g
 simp only at O Q H
 simp+decide[int,zm,vf,vo,E]
 refine zg Q ?_
 cases ok with
 |false=>
  simp only[Bool.false_eq_true,if_false] at O;rw[<-O];simp+decide[int,vo,gJ,Ent.row]
 |true=>
  simp only[if_true] at O;have K:=H rfl;by_cases G:e.senses=[]
  .have V:=OR l i e G
   rw[if_neg (by simp[G])] at O
   simp+decide[int,Ent.row];refine gx.tO 0 [0,1,2,3] [.d (.agg e.row)] (vf l i) (by simp[rho]) (by simp[Ent.row,int]) (by simp[Sym.los,Sym.lo]) (by simp[vf,vo,jL,zm,int];rfl) V ?_
   by_cases F:e.main=0
   .rw[if_pos F] at O
    rw[<-O];simp+decide[int,zm,vf,vo,gJ,F]
   .rw[if_neg F] at O
    simp+decide[int,zm,vf,vo,gJ,F];exact⟨by unfold I64;omega,k+1,e.main,⟨by omega,by rw[show l.length+1-(k+1)=l.length-k by omega];exact O⟩,by omega,by omega,rfl⟩
  .have V:=OS l i e G (hs e K)
   rw[if_pos G] at O;rw[<-O];simp+decide[int,Ent.row];refine gx.tO 0 [0,1,2,3] [.d (.agg e.row)] (vf l i) (by simp[rho]) (by simp[Ent.row,int]) (by simp[Sym.los,Sym.lo]) (by simp[vf,vo,jL,zm,int];rfl) V ?_
   simp+decide[int,zm,KI,vo,gJ]
theorem OU(l:List Ent)(id:Int):zJ Tryz.prog 102 [.d (zm l),.d (int id)] [] 0 (.fn 160 [.bp 0 0,.bp 1 0]) 2 [(0,.box 34 [.d (zm l)]),(1,.box 3 [.d (int id)])] []:=by
 refine xW mixed Tryz.func102 rfl c_102 (by simp[Sym.los,Sym.lo]) ?_
 simp+decide[Tryz.f102,zm,int]
theorem J7(l:List Ent)(id:Int)(H:l.length<2^40)(hs:∀ e∈l,e.senses.length<2^40):zj Tryz.prog 45 [zm l,int id] (zZ (xM l id)):=by
 refine Nn Tryz.func45 rfl c_45 ?_
 refine Zu mixed 1 {n:=17,next:=1,slots:=[(0,.d (zm l)),(1,.d (int id)),(4,.bp 0 0)],own:=[(0,.box 98 [.nils])]} rfl ?_ ?_
 .simp+decide[Tryz.f45,yn,zm,int]
 simp only[yL]
 refine Kj (Zu mixed 1 {n:=17,next:=3,slots:=[(4,.bp 0 0),(8,.fn 160 [.bp 1 0,.bp 2 0])],own:=[(0,.box 98 [.nils]),(1,.box 34 [.d (zm l)]),(2,.box 3 [.d (int id)])]} rfl ?_ ?_)
 .simp+decide[yn,zm,int]
  refine zF.mut [] [.d (zm l),.d (int id)] [] (by rfl) (by simp[zm,int]) (by simp) (by simp) (OU l id) ?_
  simp+decide[zm,int]
 simp only[yL]
 refine Kk (Ki (k:=0) (ids:=[3,0,1,2]) (args0:=[.yd 0,.bp 2 0,.bp 3 0]) (own0:=vf l id) (by rfl) (by simp[rho]) (by simp) (by simp[Sym.los,Sym.lo]) ?_ (OT l id H hs) ?_)
 .simp+decide[vf,vo,jL,vD,vE,jK,Tryz.f45,int,zm]
 .unfold xM
  cases wj l (l.length+1) id with
  |none=>
   simp+decide[gJ,vo,int,zm,zZ]
  |some ss=>
   simp+decide[gJ,vo,int,zm]
structure LexFit(l:List Ent):Prop where
 len:l.length<2^40
 alts:∀ e∈l,e.alts.length<2^39
 form:∀ e∈l,∀ w∈e.forms,w.length<2^20
 senses:∀ e∈l,e.senses.length<2^40
theorem Yz{l:List Ent}{id:Int}(h:(zG l id).2=true):(zG l id).1∈l:=by
 rcases wi l id with⟨_,H⟩ | ⟨j,hj,_,H⟩
 .rw[H] at h;cases h
 .rw[H];exact List.getElem_mem hj
theorem Qc{l:List Ent}(h:LexFit l)(id:Int):(zG l id).1.alts.length<2^39:=by
 cases H:(zG l id).2 with
 |true=>exact h.alts _ (Yz H)
 |false=>
  rcases wi l id with⟨_,G⟩ | ⟨j,hj,_,G⟩
  .rw[G];simp[Ent.zero]
  .rw[G] at H;cases H
theorem KJ(e:Ent)(h:e.alts.length<2^40):zj Tryz.prog 44 [.agg e.row] (yl e.forms):=by
 refine zn mixed Tryz.func44 rfl c_44 ?_
 simp[Tryz.f44,Ent.row,yl,ints,Ent.forms,maxLen]
 omega
def zq:D->List Sym
 |.agg l=>l.map .d
 |_=>[]
def qd(l:List Ent)(p:Prt):Ent×List Int×Bool:=
 if (zG l p.entry).2=true/\0<=p.alt/\p.alt<(zG l p.entry).1.forms.length then ((zG l p.entry).1,((zG l p.entry).1.forms[p.alt.toNat]?.getD []),true) else ((zG l p.entry).1,[],false)
def kA(r:Ent×List Int×Bool):D:=.tup [.agg r.1.row,ints r.2.1,.bool r.2.2]
theorem KL(g:Lang)(K:LexFit g.lex)(p:Prt):zj Tryz.prog 93 [g.d,.agg p.row] (kA (qd g.lex p)):=by
 have J:=J6 g.lex p.entry K.len
 have L:=Qc K p.entry
 unfold qd
 generalize zG g.lex p.entry=r at J L
 obtain⟨e,ok⟩:=r
 simp only at J L
 have M:=KJ e (by omega)
 have E:e.forms.length=e.alts.length+1:=by simp[Ent.forms]
 refine zn mixed Tryz.func93 rfl c_93 ?_
 simp+decide[Tryz.f93,Lang.d,Prt.row,int]
 refine zg J ?_
 simp+decide[int,Ent.row]
 refine zg M ?_
 cases ok with
 |false=>
  simp+decide[int,Ent.row,kA,ints]
 |true=>
  by_cases O:p.alt<0
  .have H:¬0<=p.alt:=by omega
   simp+decide[int,Ent.row,kA,ints,O,H];done
  have H:0<=p.alt:=by omega
  by_cases Q:p.alt<e.forms.length
  .have F:p.alt.toNat<e.forms.length:=by omega
   obtain⟨w,ew⟩:∃ w,e.forms[p.alt.toNat]=w:=⟨_,rfl⟩;have e1:e.forms[p.alt.toNat]?=some w:=by rw[List.getElem?_eq_getElem F,ew]
   have G:¬(e.forms.length:Int)<=p.alt:=by omega
   simp+decide[int,Ent.row,yl,kA,O,H,Q,G,ew];refine XZ mixed 6 [2] (by rfl) (by rfl) (by rfl) (by rfl) (by simp) ?_
   simp+decide[ints,H,Q,ew,F]
  .have G:(e.forms.length:Int)<=p.alt:=by omega
   simp+decide[int,Ent.row,yl,kA,ints,O,H,Q,G]
def yG(l:List Ent)(ps:List Prt):List Int:=ps.flatMap λp=>if (qd l p).2.2=true then [(qd l p).1.cls] else []
def zP(l:List Ent)(ps:List Prt):List Int:=ps.flatMap λp=>if (qd l p).2.2=true then (qd l p).2.1 else []
theorem Dz{l:List Ent}{ps:List Prt}{k:Nat}(h:k<ps.length):yG l (ps.take (k+1))=yG l (ps.take k)++(if (qd l ps[k]).2.2=true then [(qd l ps[k]).1.cls] else []):=by
 unfold yG;rw[yu h,List.flatMap_append,List.flatMap_singleton]
theorem DC{l:List Ent}{ps:List Prt}{k:Nat}(h:k<ps.length):zP l (ps.take (k+1))=zP l (ps.take k)++(if (qd l ps[k]).2.2=true then (qd l ps[k]).2.1 else []):=by
 unfold zP;rw[yu h,List.flatMap_append,List.flatMap_singleton]
theorem Qd(l:List Ent):∀ ps:List Prt,(yG l ps).length<=ps.length
 | []=>by simp[yG]
 |p::ps=>by
  have:=Qd l ps
  unfold yG at this ⊢;rw[List.flatMap_cons,List.length_append,List.length_cons];split <;> simp only[List.length_singleton,List.length_nil] <;> omega
theorem KN{l:List Ent}(h:LexFit l)(p:Prt):(qd l p).2.1.length<2^20:=by
 unfold qd
 split
 .rename_i hc
  have H:p.alt.toNat<(zG l p.entry).1.forms.length:=by omega
  show((zG l p.entry).1.forms[p.alt.toNat]?.getD []).length<_
  rw[List.getElem?_eq_getElem H];exact h.form _ (Yz hc.1) _ (List.getElem_mem H)
 .simp
theorem YA{l:List Ent}(h:LexFit l):∀ ps:List Prt,(zP l ps).length<=ps.length*2^20
 | []=>by simp[zP]
 |p::ps=>by
  have H:=YA h ps;have G:=KN h p;unfold zP at H ⊢;rw[List.flatMap_cons,List.length_append,List.length_cons,Nat.add_mul];split
  .omega
  .simp only[List.length_nil];omega
theorem OV(g:Lang)(E:LexFit g.lex)(ps:List Prt)(K:ps.length<2^20):zj Tryz.prog 95 [g.d,zM ps] (ints (yG g.lex ps)):=by
 refine zn mixed Tryz.func95 rfl c_95 ?_
 simp+decide[Tryz.f95,Lang.d,zM,zl,int]
 refine zr mixed (λk:Nat=>{n:=33,next:=4,slots:=[(2,.bp 0 0),(5,.ar 3),(12,.d (zl ps)),(13,.d (int ps.length)),(14,.d (int k))],own:=[(0,.box 36 (zq g.d)),(3,.arr 3 1 ((yG g.lex (ps.take k)).map λn=>[int n]))],moved:=[3]})
  (λk=>k<=ps.length) (λk=>ps.length-k) 0 (by simp) (by simp+decide[int,zl,yG,zq,Lang.d]) ?_
 intro k J
 by_cases H:k<ps.length
 case neg=>
  have:k=ps.length:=by omega
  subst this;rw[List.take_length];simp+decide[int,ints,zl]
 have G:(k:Int)<ps.length:=by omega
 have hsn:=Dz (l:=g.lex) H
 have F:=Qd g.lex (ps.take k)
 rw[List.length_take] at F
 obtain⟨p,ep⟩:∃ p,ps[k]=p:=⟨_,rfl⟩
 have e1:ps[k]?=some p:=by rw[List.getElem?_eq_getElem H,ep]
 rw[ep] at hsn
 have L:=KL g E p
 generalize qd g.lex p=r at L hsn
 obtain⟨e,w,ok⟩:=r
 simp only at hsn
 simp+decide[int,zl,Prt.row,H,G,ep,zq,Lang.d]
 refine zg L ?_
 cases ok with
 |false=>
  simp only[Bool.false_eq_true,if_false,List.append_nil] at hsn;simp+decide[kA,int,ints,Ent.row,I64];exact⟨⟨by omega,by omega⟩,k+1,H,by omega,by omega,by rw[hsn]⟩
 |true=>
  simp only[if_true] at hsn;simp+decide[kA,int,ints,Ent.row,I64];exact⟨by omega,by unfold maxLen;omega,⟨by omega,by omega⟩,k+1,H,by omega,by omega,by rw[hsn];simp⟩
theorem DD(g:Lang)(K:LexFit g.lex)(ps:List Prt)(J:ps.length<2^20):zj Tryz.prog 96 [g.d,zM ps] (ints (zP g.lex ps)):=by
 refine zn mixed Tryz.func96 rfl c_96 ?_
 simp+decide[Tryz.f96,Lang.d,zM,zl,int]
 refine zr mixed (λk:Nat=>{n:=31,next:=4,slots:=[(2,.bp 0 0),(5,.ar 3),(12,.d (zl ps)),(13,.d (int ps.length)),(14,.d (int k))],own:=[(0,.box 36 (zq g.d)),(3,.arr 3 1 ((zP g.lex (ps.take k)).map λn=>[int n]))],moved:=[3]})
  (λk=>k<=ps.length) (λk=>ps.length-k) 0 (by simp) (by simp+decide[int,zl,zP,zq,Lang.d]) ?_
 intro k L
 by_cases H:k<ps.length
 case neg=>
  have:k=ps.length:=by omega
  subst this;rw[List.take_length];simp+decide[int,ints,zl]
 have G:(k:Int)<ps.length:=by omega
 have hsn:=DC (l:=g.lex) H
 have F:=YA K (ps.take k)
 rw[List.length_take] at F
 obtain⟨p,ep⟩:∃ p,ps[k]=p:=⟨_,rfl⟩
 have e1:ps[k]?=some p:=by rw[List.getElem?_eq_getElem H,ep]
 rw[ep] at hsn
 have M:=KL g K p
 have E:=KN K p
 generalize qd g.lex p=r at M hsn E
 obtain⟨e,w,ok⟩:=r
 simp only at hsn E
 simp+decide[int,zl,Prt.row,H,G,ep,zq,Lang.d]
 refine zg M ?_
 cases ok with
 |false=>
  simp only[Bool.false_eq_true,if_false,List.append_nil] at hsn;simp+decide[kA,int,ints,Ent.row,I64];exact⟨⟨by omega,by omega⟩,k+1,H,by omega,by omega,by rw[hsn]⟩
 |true=>
  simp only[if_true] at hsn;simp+decide[kA,int,ints,Ent.row,I64];exact⟨by omega,by unfold maxLen;omega,⟨by omega,by omega⟩,k+1,H,by omega,by omega,by rw[hsn];simp⟩
def kB(l:List Int)(x:Int):Int:=match l.findIdx? (· = x) with
 |some k=>k
 |none=>-1
theorem KO(l:List Int)(x:Int):(0<=kB l x↔x∈l):=by
 unfold kB
 cases h:l.findIdx? (· = x) with
 |none=>
  rw[List.findIdx?_eq_none_iff] at h;constructor
  .intro e;change (0:Int)<=-1 at e;omega
  .intro e;have:=h x e;simp at this
 |some k=>
  rw[List.findIdx?_eq_some_iff_getElem] at h;obtain⟨H,G,_⟩:=h;constructor
  .intro _;have F:l[k]=x:=by simpa using G
   rw[<-F];exact List.getElem_mem H
  .intro _;exact Int.natCast_nonneg k
theorem DF(l:List Int)(x:Int)(E:l.length<2^62):zj Tryz.prog 167 [ints l,int x] (int (kB l x)):=by
 refine zn mixed Tryz.func167 rfl c_167 ?_
 simp[Tryz.f167,ints]
 refine zr mixed (λk:Nat=>{n:=19,next:=0,slots:=[(0,.d (ints l)),(1,.d (int x)),(6,.d (ints l)),(7,.d (.int .i64 l.length)),(8,.d (.int .i64 k))],own:=[]})
  (λk=>k<=l.length/\∀ y∈l.take k,y≠x) (λk=>l.length-k) 0 (by simp) (by simp[ints,int]) ?_
 intro k ⟨K,J⟩
 by_cases H:k<l.length
 .have G:(k:Int)<l.length:=by omega
  obtain⟨c,ec⟩:∃ c,l[k]=c:=⟨_,rfl⟩;have e1:l[k]?=some c:=by rw[List.getElem?_eq_getElem H,ec]
  by_cases L:c=x
  .have M:l.findIdx? (· = x)=some k:=by
    rw[List.findIdx?_eq_some_iff_getElem];refine⟨H,by simpa[ec] using L,λj hj=>?_⟩
    have:=J l[j] (by rw[List.mem_take_iff_getElem];exact⟨j,by omega,rfl⟩)
    simpa using this
   subst L;simp+decide[ints,int,ec,H,G,kB,M]
  .have F:¬x=c:=λe=>L e.symm
   simp+decide[ints,int,ec,H,G,F,I64];exact⟨⟨by omega,by omega⟩,k+1,⟨H,kq H J (by rw[ec];exact L)⟩,by omega,by omega⟩
 .have:k=l.length:=by omega
  subst this;have M:l.findIdx? (· = x)=none:=by
   rw[List.findIdx?_eq_none_iff];intro y O;have:=J y (by rwa [List.take_length]);simpa using this
  simp+decide[ints,int,kB,M]
theorem OW(l:List Int)(x:Int)(H:l.length<2^62):zj Tryz.prog 116 [ints l,int x] (.bool (decide (x∈l))):=by
 refine zn mixed Tryz.func116 rfl c_116 ?_
 simp+decide[Tryz.f116,int,ints]
 refine zg (DF l x H) ?_
 have:=KO l x
 simp+decide[int,this]
theorem DG(l:List Int)(x:Int)(H:l.length<2^62):zj Tryz.prog 60 [ints l,int x] (.bool (decide (x∈l))):=by
 refine zn mixed Tryz.func60 rfl c_60 ?_
 simp+decide[Tryz.f60,int,ints]
 refine zg (OW l x H) ?_
 simp+decide
def J8(inv:List Phon)(cs:List Cls):D:=.agg [zI inv,xc cs]
theorem OX(inv:List Phon)(cs:List Cls)(k:Nat)(G:k<cs.length)(n:Int)(F:inv.length<2^62):zj Tryz.prog 281 [J8 inv cs,int k,int n] (.bool (vZ inv n cs[k])):=by
 have H:(k:Int)<cs.length:=by omega
 obtain⟨c,ec⟩:∃ c,cs[k]=c:=⟨_,rfl⟩
 have e1:cs[k]?=some c:=by rw[List.getElem?_eq_getElem G,ec]
 rw[ec]
 refine zn mixed Tryz.func281 rfl c_281 ?_
 simp+decide[Tryz.f281,int,J8,xc,Cls.row,G,H,ec]
 refine scp (Oo inv n c F) ?_
 simp+decide
def jM(inv:List Phon)(cs:List Cls)(ws:List Int):Bool:=(ws.zip cs).all λx=>vZ inv x.1 x.2
theorem OY{α β:Type}{a:List α}{b:List β}{k:Nat}(h:k<a.length)(H:k<b.length):(a.take (k+1)).zip (b.take (k+1))=(a.take k).zip (b.take k)++[(a[k],b[k])]:=by
 rw[yu h,yu H,List.zip_append (by rw[List.length_take,List.length_take];omega)];rfl
theorem DI(inv:List Phon)(cs:List Cls)(ws:List Int)(J:ws.length=cs.length)(L:inv.length<2^62)(M:cs.length<2^62):
  zj Tryz.prog 280 [.fn 281 [],J8 inv cs,ints ws] (.bool (jM inv cs ws)):=by
 refine zn mixed Tryz.func280 rfl c_280 ?_
 simp+decide[Tryz.f280,J8,ints]
 refine zr mixed (λk:Nat=>{n:=23,next:=1,slots:=[(0,.d (.fn 281 [])),(4,.bp 0 0),(9,.d (ints ws)),(10,.d (.int .i64 ws.length)),(11,.d (.int .i64 k))],own:=[(0,.box 319 [.d (zI inv),.d (xc cs)])]})
  (λk=>k<=ws.length/\((ws.take k).zip (cs.take k)).all (λx=>vZ inv x.1 x.2)=true) (λk=>ws.length-k) 0 (by simp) (by simp[ints]) ?_
 intro k ⟨O,Q⟩
 by_cases H:k<ws.length
 .have G:(k:Int)<ws.length:=by omega
  have E:k<cs.length:=by omega
  have T:=OX inv cs k E ws[k] L;have hsn:=OY H E;obtain⟨c,ec⟩:∃ c,ws[k]=c:=⟨_,rfl⟩;have e1:ws[k]?=some c:=by rw[List.getElem?_eq_getElem H,ec]
  rw[ec] at T hsn;simp+decide[ints,ec,H,G];refine zg T ?_
  cases V:vZ inv c cs[k] with
  |true=>
   simp+decide[I64];refine⟨⟨by omega,by omega⟩,k+1,⟨H,?_⟩,by omega,by omega⟩
   intro x y K;have F:((ws.take (k+1)).zip (cs.take (k+1))).all (λx=>vZ inv x.1 x.2)=true:=by rw[hsn,List.all_append,Q,Bool.true_and];simp[V]
   exact List.all_eq_true.1 F (x,y) K
  |false=>
   have X:jM inv cs ws=false:=by
    unfold jM;rw[List.all_eq_false];refine⟨(c,cs[k]),?_,by rw[V];decide⟩
    rw[List.mem_iff_getElem];exact⟨k,by rw[List.length_zip];omega,by rw[List.getElem_zip,ec]⟩
   simp+decide[X]
 .have:k=ws.length:=by omega
  subst this;rw[List.take_length,J,List.take_length] at Q;have X:jM inv cs ws=true:=Q
  simp+decide[ints,X]
def wm(inv:List Phon)(r:Rule)(w:List Int)(k:Nat):Bool:=
 decide (w[k]?.getD 0∈r.src)&&decide (r.left.length<=k)&&decide (k+1+r.right.length<=w.length) && !(r.beg&&decide (r.left.length<k)) && !(r.fin&&decide (k+1+r.right.length<w.length)) &&
  jM inv r.left ((w.take k).drop (k-r.left.length))&&jM inv r.right ((w.take (k+1+r.right.length)).drop (k+1))
structure RuleFit(r:Rule):Prop where
 src:r.src.length<2^40
 left:r.left.length<2^40
 right:r.right.length<2^40
theorem OZ(inv:List Phon)(B:inv.length<2^62)(r:Rule)(C:RuleFit r)(w:List Int)(I:w.length<2^40)(k:Nat)(N:k<w.length):
  zj Tryz.prog 267 [.agg [zI inv],.agg r.row,ints w,int k] (.bool (wm inv r w k)):=by
 obtain⟨P,S,W⟩:=C
 obtain⟨x,ex⟩:∃ x,w[k]=x:=⟨_,rfl⟩
 have e1:w[k]?=some x:=by rw[List.getElem?_eq_getElem N,ex]
 have V:(k:Int)<w.length:=by omega
 have hH:=DG r.src x (by omega)
 obtain⟨R,hR⟩:∃ R,wm inv r w k=R:=⟨_,rfl⟩
 rw[hR]
 unfold wm at hR
 rw[e1,Option.getD_some] at hR
 refine zn mixed Tryz.func267 rfl c_267 ?_
 obtain⟨src,dst,left,right,beg,fin⟩:=r
 simp only at P S W hH hR
 simp+decide[Tryz.f267,int,Rule.row,xc,I64]
 refine⟨by omega,by omega,by omega,?_⟩
 simp+decide[ints,ex,N,V]
 refine scp hH ?_
 by_cases hx:x∈src
 case neg=>
  have:R=false:=by rw[<-hR];simp[hx]
  subst this;simp+decide[hx]
 by_cases hf:left.length<=k
 case neg=>
  have:R=false:=by rw[<-hR];simp[hf]
  subst this;have H:(k:Int)-left.length<0:=by omega
  simp+decide[hx,H]
 have H:¬(k:Int)-left.length<0:=by omega
 by_cases ht:k+1+right.length<=w.length
 case neg=>
  have:R=false:=by rw[<-hR];simp[ht]
  subst this;have G:(w.length:Int)<k+1+right.length:=by omega
  simp+decide[hx,H,G]
 have G:¬(w.length:Int)<k+1+right.length:=by omega
 by_cases hb:beg=true/\left.length<k
 case pos=>
  obtain⟨X,J⟩:=hb;subst X;have:R=false:=by rw[<-hR];simp[J]
  subst this;have O:(0:Int)<(k:Int)-left.length:=by omega
  simp+decide[hx,H,G,J]
 have J:(beg&&decide (left.length<k))=false:=by
  cases beg
  .rfl
  .simp at hb;simp[hb]
 by_cases he:fin=true/\k+1+right.length<w.length
 case pos=>
  obtain⟨Y,L⟩:=he;subst Y;have:R=false:=by rw[<-hR];simp[L]
  subst this;have Q:(k:Int)+1+right.length<w.length:=by omega
  cases beg
  .simp+decide[hx,H,G,Q]
  .have O:¬(0:Int)<(k:Int)-left.length:=by simp at hb;omega
   simp+decide[hx,H,G,Q]
 have L:(fin&&decide (k+1+right.length<w.length))=false:=by
  cases fin
  .rfl
  .simp at he;simp[he]
 have Z:((w.take k).drop (k-left.length)).length=left.length:=by rw[List.length_drop,List.length_take];omega
 have A:((w.take (k+1+right.length)).drop (k+1)).length=right.length:=by rw[List.length_drop,List.length_take];omega
 have E:=DI inv left _ Z B (by omega)
 have F:=DI inv right _ A B (by omega)
 have eL:∀ a b,ints ((w.take a).drop b) = .sl (((w.map λn=>[D.int .i64 n]).take a).drop b):=λa b=>by simp[ints,List.map_drop,List.map_take]
 rw[eL] at E F
 rw[J,L] at hR
 generalize jM inv left ((w.take k).drop (k-left.length))=b1 at E hR
 generalize jM inv right ((w.take (k+1+right.length)).drop (k+1))=b2 at F hR
 have hR:R=(b1&&b2):=by rw[<-hR];simp[hx,hf,ht]
 subst hR
 have M:beg=true->¬(0:Int)<(k:Int)-left.length:=by
  intro e;subst e;simp at hb;omega
 have K:fin=true->¬(k:Int)+1+right.length<w.length:=by
  intro e;subst e;simp at he;omega
 have ek:((k:Int)+1+right.length).toNat=k+1+right.length:=by omega
 have ek1:((k:Int)+1).toNat=k+1:=by omega
 rw[<-ek] at F
 cases beg with
 |false=>
  cases fin with
  |false=>
   simp+decide[hx,hf,H,G];refine⟨⟨by omega,by omega⟩,?_⟩
   refine scp E ?_
   cases b1 with
   |false=>simp+decide
   |true=>
    simp+decide[I64];refine⟨⟨by omega,by omega⟩,⟨by omega,by omega,by omega⟩,?_⟩
    refine scp F ?_
    simp+decide
  |true=>
   have:=K rfl
   simp+decide[hx,hf,H,G,this];refine⟨⟨by omega,by omega⟩,?_⟩
   refine scp E ?_
   cases b1 with
   |false=>simp+decide
   |true=>
    simp+decide[I64];refine⟨⟨by omega,by omega⟩,⟨by omega,by omega,by omega⟩,?_⟩
    refine scp F ?_
    simp+decide
 |true=>
  have O:=M rfl;have T:¬left.length<k:=by omega
  cases fin with
  |false=>
   simp+decide[hx,hf,H,G,T];refine⟨⟨by omega,by omega⟩,?_⟩
   refine scp E ?_
   cases b1 with
   |false=>simp+decide
   |true=>
    simp+decide[I64];refine⟨⟨by omega,by omega⟩,⟨by omega,by omega,by omega⟩,?_⟩
    refine scp F ?_
    simp+decide
  |true=>
   have:=K rfl
   simp+decide[hx,hf,H,G,T,this];refine⟨⟨by omega,by omega⟩,?_⟩
   refine scp E ?_
   cases b1 with
   |false=>simp+decide
   |true=>
    simp+decide[I64];refine⟨⟨by omega,by omega⟩,⟨by omega,by omega,by omega⟩,?_⟩
    refine scp F ?_
    simp+decide
def uH(inv:List Phon)(r:Rule)(w:List Int)(k:Nat)(x:Int):List Int:=
 if wm inv r w k=true then (if r.dst[(kB r.src x).toNat]?.getD 0=0 then [] else [r.dst[(kB r.src x).toNat]?.getD 0]) else [x]
def kC(inv:List Phon)(r:Rule)(w:List Int):List Int:=(w.zipIdx.map λx=>uH inv r w x.2 x.1).flatten
theorem P0{α:Type}{l:List α}{k:Nat}(h:k<l.length):l.zipIdx.take (k+1)=l.zipIdx.take k++[(l[k],k)]:=by
 have H:k<l.zipIdx.length:=by simpa using h
 rw[yu H]
 simp
def wQ(inv:List Phon)(r:Rule)(w:List Int)(k:Nat):List Int:=((w.zipIdx.take k).map λx=>uH inv r w x.2 x.1).flatten
theorem KP{inv:List Phon}{r:Rule}{w:List Int}{k:Nat}(h:k<w.length):wQ inv r w (k+1)=wQ inv r w k++uH inv r w k w[k]:=by
 unfold wQ;rw[P0 h,List.map_append,List.flatten_append];simp
theorem P1(inv:List Phon)(r:Rule)(w:List Int)(k:Nat)(x:Int):(uH inv r w k x).length<=1:=by
 unfold uH;split
 .split <;> simp
 .simp
theorem J9(inv:List Phon)(r:Rule)(w:List Int):∀ k,k<=w.length->(wQ inv r w k).length<=k
 |0,_=>by simp[wQ]
 |k+1,h=>by
  rw[KP (by omega),List.length_append]
  have H:=J9 inv r w k (by omega)
  have G:=P1 inv r w k (w[k]'(by omega))
  omega
theorem KQ(inv:List Phon)(r:Rule)(w:List Int):wQ inv r w w.length=kC inv r w:=by
 unfold wQ kC
 rw[List.take_of_length_le (by simp)]
structure RuleOk(r:Rule):Prop extends RuleFit r where
 dst:r.dst.length=r.src.length
theorem P2(inv:List Phon)(Q:inv.length<2^62)(r:Rule)(T:RuleOk r)(w:List Int)(V:w.length<2^40):
  zj Tryz.prog 237 [.agg [zI inv],.agg r.row,ints w] (ints (kC inv r w)):=by
 rw[<-KQ]
 refine zn mixed Tryz.func237 rfl c_237 ?_
 simp+decide[Tryz.f237,ints,Rule.row]
 refine zr mixed (λk:Nat=>{n:=38,next:=4,slots:=[(2,.d (ints w)),(3,.bp 0 0),(4,.bp 1 0),(7,.ar 3),(10,.d (ints w)),(11,.d (int w.length)),(12,.d (int k))],own:=[(0,.box 24 [.d (zI inv)]),(1,.box 90 (r.row.map .d)),(3,.arr 3 1 ((wQ inv r w k).map λn=>[int n]))],moved:=[3]})
  (λk=>k<=w.length) (λk=>w.length-k) 0 (by simp) (by simp+decide[int,ints,Rule.row,wQ]) ?_
 intro k X
 by_cases H:k<w.length
 case neg=>
  have:k=w.length:=by omega
  subst this;simp+decide[int,ints]
 have E:(k:Int)<w.length:=by omega
 have hsn:=KP (inv:=inv) (r:=r) H
 have L:=J9 inv r w k X
 have Y:=OZ inv Q r T.toRuleFit w V k H
 obtain⟨x,ex⟩:∃ x,w[k]=x:=⟨_,rfl⟩
 have e1:w[k]?=some x:=by rw[List.getElem?_eq_getElem H,ex]
 rw[ex] at hsn
 have Z:=DF r.src x (by have:=T.src;omega)
 have G:=KO r.src x
 have K:x∈r.src->∃ j:Nat,j<r.src.length/\kB r.src x=j:=by
  intro A;unfold kB at G ⊢;cases B:r.src.findIdx? (· = x) with
  |none=>rw[B] at G;exact absurd (G.2 A) (by decide)
  |some j=>
   rw[List.findIdx?_eq_some_iff_getElem] at B;exact⟨j,B.1,rfl⟩
 have F:wm inv r w k=true->x∈r.src:=by
  intro h;unfold wm at h;simp only[Bool.and_eq_true,decide_eq_true_eq] at h;have:=h.1.1.1.1.1.1
  rwa [e1,Option.getD_some] at this
 have M:=T.dst
 unfold uH at hsn
 simp+decide[int,ints,Rule.row,H,E,ex]
 refine zg Y ?_
 cases C:wm inv r w k with
 |false=>
  rw[C] at hsn;simp only[Bool.false_eq_true,if_false] at hsn;simp+decide[I64];exact⟨by omega,by unfold maxLen;omega,⟨by omega,by omega⟩,k+1,H,by omega,by omega,by rw[hsn];simp⟩
 |true=>
  rw[C] at hsn;simp only[if_true] at hsn;obtain⟨j,hj,ej⟩:=K (F C);have J:j<r.dst.length:=by omega
  obtain⟨y,ey⟩:∃ y,r.dst[j]=y:=⟨_,rfl⟩;have e2:r.dst[j]?=some y:=by rw[List.getElem?_eq_getElem J,ey]
  rw[ej,Int.toNat_natCast,e2,Option.getD_some] at hsn;rw[ej] at Z;have O:(j:Int)<r.dst.length:=by omega
  simp+decide
  refine scp Z ?_
  simp+decide[int,J,O,ey,I64];by_cases I:y=0
  .rw[if_pos I,List.append_nil] at hsn
   simp+decide[I];exact⟨⟨by omega,by omega⟩,k+1,H,by omega,by omega,by rw[hsn]⟩
  .rw[if_neg I] at hsn
   simp+decide[I];exact⟨by omega,by unfold maxLen;omega,⟨by omega,by omega⟩,k+1,H,by omega,by omega,by rw[hsn];simp⟩
theorem P3(inv:List Phon)(r:Rule)(w:List Int):(kC inv r w).length<=w.length:=by
 rw[<-KQ];exact J9 inv r w _ (Nat.le_refl _)
def xk(inv:List Phon)(rs:List Rule)(w:List Int):List Int:=rs.foldl (λw r=>kC inv r w) w
theorem ZC(inv:List Phon):∀ (rs:List Rule) (w:List Int),(xk inv rs w).length<=w.length
 | [],w=>Nat.le_refl _
 |r::rs,w=>by
  have H:=ZC inv rs (kC inv r w);have G:=P3 inv r w;unfold xk at H ⊢;rw[List.foldl_cons];omega
theorem DJ(inv:List Phon)(K:inv.length<2^62)(rs:List Rule)(J:∀ r∈rs,RuleOk r)(L:rs.length<2^40)(w:List Int)(M:w.length<2^40):
  zj Tryz.prog 209 [.agg [zI inv],yO rs,ints w] (ints (xk inv rs w)):=by
 refine zn mixed Tryz.func209 rfl c_209 ?_
 simp+decide[Tryz.f209,ints,yO]
 refine zr mixed (λk:Nat=>{n:=21,next:=2,slots:=[(2,.d (ints (xk inv (rs.take k) w))),(3,.bp 0 0),(9,.d (yO rs)),(10,.d (int rs.length)),(11,.d (int k))],own:=[(0,.box 24 [.d (zI inv)])]})
  (λk=>k<=rs.length) (λk=>rs.length-k) 0 (by simp) (by simp+decide[int,ints,yO,xk]) ?_
 intro k O
 by_cases H:k<rs.length
 case neg=>
  have:k=rs.length:=by omega
  subst this;rw[List.take_length];simp+decide[int,ints,yO]
 have G:(k:Int)<rs.length:=by omega
 have hsn:xk inv (rs.take (k+1)) w=kC inv rs[k] (xk inv (rs.take k) w):=by unfold xk;rw[yu H,List.foldl_append];rfl
 have E:=ZC inv (rs.take k) w
 have F:=J rs[k] (List.getElem_mem H)
 obtain⟨r,er⟩:∃ r,rs[k]=r:=⟨_,rfl⟩
 have e1:rs[k]?=some r:=by rw[List.getElem?_eq_getElem H,er]
 rw[er] at hsn F
 generalize xk inv (rs.take k) w=u at hsn E
 have Q:=P2 inv K r F u (by omega)
 simp+decide[int,ints,yO,Rule.row,H,G,er]
 refine zg Q ?_
 simp+decide[ints,I64]
 exact⟨⟨by omega,by omega⟩,k+1,H,by omega,by rw[hsn],by omega⟩
structure LangOk(g:Lang):Prop where
 lex:LexFit g.lex
 inv:g.inv.length<2^40
 rules:(∀ r∈g.rules,RuleOk r)/\g.rules.length<2^40
 net:KH g.net
def qH(l:List Ent)(p:Prt):Int:=
 if (zG l p.entry).2=false then 9 else if (qd l p).2.2=false then 2 else if p.sense<0\/(xM l p.entry).length<=p.sense then 22 else 0
def vF(l:List Ent):List Prt->Int
 | []=>0
 |p::ps=>if qH l p=0 then vF l ps else qH l p
theorem DK{l:List Ent}{ps:List Prt}{k:Nat}(h:k<ps.length):vF l (ps.drop k)=if qH l ps[k]=0 then vF l (ps.drop (k+1)) else qH l ps[k]:=by
 rw[List.drop_eq_getElem_cons h];rfl
def ql(g:Lang)(ps:List Prt):Int:=
 if ps.length=0 then 4 else if 4<ps.length then 11 else if vF g.lex ps≠0 then vF g.lex ps else if kz g.net (yG g.lex ps)=false then 21 else if 24<(zP g.lex ps).length then 5 else 0
theorem DL(g:Lang)(V:LangOk g)(ps:List Prt)(X:ps.length<2^20):zj Tryz.prog 41 [g.d,zM ps] (int (ql g ps)):=by
 refine zn mixed Tryz.func41 rfl c_41 ?_
 obtain⟨R,Y⟩:∃ R,ql g ps=R:=⟨_,rfl⟩
 rw[Y]
 unfold ql at Y
 by_cases Z:ps.length=0
 .rw[if_pos Z] at Y
  subst Y;simp+decide[Tryz.f41,Lang.d,zM,zl,int,Z];done
 rw[if_neg Z] at Y
 by_cases A:4<ps.length
 .rw[if_pos A] at Y
  subst Y;have E:(4:Int)<ps.length:=by omega
  have O:¬(ps.length:Int)=0:=by omega
  simp+decide[Tryz.f41,Lang.d,zM,zl,int,Z,E];done
 rw[if_neg A] at Y
 have E:¬(4:Int)<ps.length:=by omega
 have O:¬(ps.length:Int)=0:=by omega
 simp+decide[Tryz.f41,Lang.d,zM,zl,int,Z,E]
 refine zr mixed (λk:Nat=>{n:=73,next:=2,slots:=[(2,.bp 0 0),(3,.bp 1 0),(21,.d (zl ps)),(22,.d (int ps.length)),(23,.d (int k))],own:=[(0,.box 36 (zq g.d)),(1,.box 39 [.d (zl ps)])]})
  (λk=>k<=ps.length/\vF g.lex (ps.drop k)=vF g.lex ps) (λk=>ps.length-k) 0 (by simp) (by simp+decide[int,zl,zq,Lang.d]) ?_
 intro k ⟨B,K⟩
 by_cases G:k<ps.length
 case neg=>
  have:k=ps.length:=by omega
  subst this;rw[List.drop_length] at K;rw[<-K] at Y;have C:vF g.lex []=0:=rfl
  rw[C,if_neg (by simp)] at Y
  have I:=OV g V.lex ps X;have N:=DD g V.lex ps X;have Q:=Qd g.lex ps;have P:=ON g.net V.net (yG g.lex ps) (by omega)
  have T:=YA V.lex ps;simp+decide[int,zl,zq,Lang.d];refine scp I ?_
  simp+decide
  refine scp P ?_
  cases M:kz g.net (yG g.lex ps) with
  |false=>
   rw[if_pos M] at Y;subst Y;simp+decide
  |true=>
   rw[if_neg (by rw[M];decide)] at Y
   simp+decide
   refine zg N ?_
   by_cases S:24<(zP g.lex ps).length
   .rw[if_pos S] at Y
    subst Y;have J:(24:Int)<(zP g.lex ps).length:=by omega
    simp+decide[ints,J]
   .rw[if_neg S] at Y
    subst Y;have J:¬(24:Int)<(zP g.lex ps).length:=by omega
    simp+decide[ints,J]
 have L:(k:Int)<ps.length:=by omega
 have hsn:=DK (l:=g.lex) G
 rw[K] at hsn
 obtain⟨p,ep⟩:∃ p,ps[k]=p:=⟨_,rfl⟩
 have e1:ps[k]?=some p:=by rw[List.getElem?_eq_getElem G,ep]
 rw[ep] at hsn
 have W:=J6 g.lex p.entry V.lex.len
 have hF:=KL g V.lex p
 have hS:=J7 g.lex p.entry V.lex.len V.lex.senses
 unfold qH at hsn
 generalize zG g.lex p.entry=r1 at W hsn
 generalize qd g.lex p=r2 at hF hsn
 generalize xM g.lex p.entry=ss at hS hsn
 obtain⟨e,ok⟩:=r1
 obtain⟨e2,w,ok2⟩:=r2
 simp only at hsn
 simp+decide[int,zl,Prt.row,G,L,ep,zq,Lang.d]
 refine zg W ?_
 cases ok with
 |false=>
  have:R=9:=by rw[<-Y,hsn];simp
  subst this;simp+decide[int,Ent.row]
 |true=>
  simp+decide[int,Ent.row];refine zg hF ?_
  cases ok2 with
  |false=>
   have:R=2:=by rw[<-Y,hsn];simp
   subst this;simp+decide[int,kA,Ent.row]
  |true=>
   simp+decide[int,kA,Ent.row];by_cases H:p.sense<0
   .have:R=22:=by rw[<-Y,hsn];simp[H]
    subst this;simp+decide[H];intro h;omega
   .simp+decide[H]
    intro _;refine scp hS ?_
    by_cases F:(ss.length:Int)<=p.sense
    .have:R=22:=by rw[<-Y,hsn];simp[H,F]
     subst this;simp+decide[zZ,F]
    .have hd:vF g.lex (ps.drop (k+1))=vF g.lex ps:=by rw[hsn];simp[H,F]
     simp+decide[zZ,F];exact⟨⟨by omega,by omega⟩,k+1,⟨G,hd⟩,by omega,by simp⟩
def xN(g:Lang)(ps:List Prt):List Int×Int:=
 if ql g ps≠0 then ([],ql g ps) else if (xk g.inv g.rules (zP g.lex ps)).length=0 then ([],23) else (xk g.inv g.rules (zP g.lex ps),0)
theorem P4(g:Lang)(E:LangOk g)(ps:List Prt)(K:ps.length<2^20):zj Tryz.prog 170 [g.d,zM ps] (.tup [ints (xN g ps).1,int (xN g ps).2]):=by
 have J:=DL g E ps K
 have L:=DD g E.lex ps K
 have H:ql g ps=0->(zP g.lex ps).length<2^40:=by
  intro h;unfold ql at h;repeat' split at h
  all_goals first | omega | skip
 have M:=λh=>DJ g.inv (by have:=E.inv;omega) g.rules E.rules.1 E.rules.2 (zP g.lex ps) (H h)
 have G:=ZC g.inv g.rules (zP g.lex ps)
 unfold xN
 generalize ql g ps=R at J M H ⊢
 refine zn mixed Tryz.func170 rfl c_170 ?_
 simp+decide[Tryz.f170,int,Lang.d,zM]
 refine zg J ?_
 by_cases O:R=0
 .subst O
  have M:=M rfl;have H:=H rfl;generalize xk g.inv g.rules (zP g.lex ps)=v at M G ⊢;simp+decide[int];refine scp L ?_
  simp+decide[ints];refine scp M ?_
  by_cases Q:v.length=0
  .simp+decide[ints,List.length_eq_zero_iff.mp Q]
  .have F:v≠[]:=λh=>Q (by rw[h];rfl)
   simp+decide[ints,Q,F]
 .simp+decide[int,ints,O]
theorem DN(g:Lang)(H:LangOk g)(w:List Int)(G:w.length<2^40)(ps:List Prt)(F:ps.length<2^20):zj Tryz.prog 120 [g.d,ints w,zM ps] (.bool (decide ((xN g ps).2=0/\(xN g ps).1=w))):=by
 have E:=P4 g H ps F
 have K:=Dq (xN g ps).1 w (by omega)
 generalize xN g ps=q at E K ⊢
 obtain⟨v,e⟩:=q
 refine zn mixed Tryz.func120 rfl c_120 ?_
 simp+decide[Tryz.f120,int,Lang.d,zM]
 refine zg E ?_
 by_cases J:e=0
 .subst J
  simp+decide[int,ints];refine zg K ?_
  simp+decide
 .simp+decide[int,ints,J]
def xO(l:List Ent):Nat->Int->List Int
 |0,_=>[]
 |f+1,id=>if (zG l id).2=true then id::(if (zG l id).1.main=0 then [] else xO l f (zG l id).1.main) else []
theorem DO(l:List Ent):∀ f id,(xO l f id).length<=f
 |0,_=>Nat.le_refl _
 |f+1,id=>by
  have:=DO l f (zG l id).1.main
  unfold xO;split
  .split <;> simp <;> omega
  .simp
theorem P5{l:List Ent}{id:Int}(h:(zG l id).2=true):(zG l id).1.id=id:=by
 unfold zG at h ⊢
 cases H:l.find? (·.id=id) with
 |none=>rw[H] at h;cases h
 |some e=>have:=List.find?_some H;simpa using this
theorem KR(e:Ent)(h:e.alts.length<2^39)(alt:Int):zj Tryz.prog 161 [.agg e.row,int alt] (.bool (decide (0<=alt/\alt<e.forms.length))):=by
 have G:zj Tryz.prog 49 [.agg e.row] (yl e.forms):=by
  refine zn mixed Tryz.func49 rfl c_49 ?_
  simp[Tryz.f49,Ent.row,yl,ints,Ent.forms,maxLen];omega
 have H:e.forms.length=e.alts.length+1:=by simp[Ent.forms]
 refine zn mixed Tryz.func161 rfl c_161 ?_
 by_cases F:0<=alt
 .simp+decide[Tryz.f161,int,Ent.row,F]
  refine zg G ?_
  simp+decide[yl]
 .simp+decide[Tryz.f161,int,Ent.row,F]
theorem DR(l:List Ent)(id:Int)(J:l.length<2^40):zj Tryz.prog 109 [zm l,int id] (ints (xO l (l.length+1) id)):=by
 refine zn mixed Tryz.func109 rfl c_109 ?_
 simp+decide[Tryz.f109,int,ints]
 refine zg (J3 l id (by omega)) ?_
 simp+decide[int]
 refine zr mixed (λx:List Int×Int=>{n:=42,next:=2,slots:=[(0,.d (zm l)),(5,.ar 1),(6,.d (int (x5 l x.2)))],own:=[(1,.arr 3 1 (x.1.map λn=>[int n]))],moved:=[1]})
  (λx=>x.1++xO l (l.length+1-x.1.length) x.2=xO l (l.length+1) id/\x.1.length<=l.length+1) (λx=>l.length+1-x.1.length) ([],id) (by simp) (by simp+decide[int]) ?_
 rintro⟨out,x⟩ ⟨L,M⟩
 simp only at L M
 have O:x5 l x<0->(zG l x).2=false:=by
  intro h;rcases wi l x with⟨_,Q⟩ | ⟨j,hj,T,_⟩
  .rw[Q]
  .omega
 by_cases G:x5 l x<0
 .have V:¬0<=x5 l x:=by omega
  have X:xO l (l.length+1) id=out:=by
   rw[<-L];have:xO l (l.length+1-out.length) x=[]:=by
    cases l.length+1-out.length with
    |zero=>rfl
    |succ f=>unfold xO;rw[if_neg (by rw[O G];decide)]
   rw[this,List.append_nil]
  rw[X];simp+decide[int,V]
 have V:0<=x5 l x:=by omega
 by_cases F:out.length<=l.length
 case neg=>
  have:out.length=l.length+1:=by omega
  have X:xO l (l.length+1) id=out:=by
   rw[<-L,this,Nat.sub_self];exact List.append_nil _
  rw[X];have H:¬(out.length:Int)<=l.length:=by omega
  simp+decide[int,V,zm,H]
 rcases wi l x with⟨T,_⟩ | ⟨j,hj,T,Q⟩
 .exact absurd T (by omega)
 have hid:l[j].id=x:=by have:=P5 (l:=l) (id:=x) (by rw[Q]);rw[Q] at this;exact this
 obtain⟨e,ee⟩:∃ e,l[j]=e:=⟨_,rfl⟩
 have e1:l[j]?=some e:=by rw[List.getElem?_eq_getElem hj,ee]
 rw[ee] at hid Q
 have H:(out.length:Int)<=l.length:=by omega
 have E:(j:Int)<l.length:=by omega
 have hs:xO l (l.length+1-out.length) x=x::(if e.main=0 then [] else xO l (l.length+1-(out.length+1)) e.main):=by
  have:l.length+1-out.length=(l.length+1-(out.length+1))+1:=by omega
  rw[this];conv=>lhs;unfold xO
  rw[if_pos (by rw[Q]),Q]
 rw[hs] at L
 have K:=J3 l e.main (by omega)
 by_cases Y:e.main=0
 .rw[if_pos Y] at L
  rw[<-L];simp+decide[int,ints,zm,H,T,hj,E,ee,hid,Y,Ent.row];exact⟨by omega,by unfold maxLen;omega⟩
 .rw[if_neg Y] at L
  simp+decide[int,ints,zm,H,T,hj,E,ee,hid,Y,Ent.row];refine⟨by omega,by unfold maxLen;omega,zg K ?_⟩
  simp+decide[int];exact⟨out++[x],e.main,⟨by rw[List.length_append,List.append_assoc];exact L,by simp;omega⟩,by simp;omega,rfl,by simp⟩
def jN(l:List Ent):List Int->List Sens
 | []=>[]
 |x::ws=>if (zG l x).1.senses≠[] then (zG l x).1.senses else jN l ws
theorem Ja(l:List Ent):∀ f id,(wj l f id).getD []=jN l (xO l f id)
 |0,_=>rfl
 |f+1,id=>by
  have ih:=Ja l f (zG l id).1.main;unfold wj xO;by_cases h:(zG l id).2=true
  .rw[if_pos h,if_pos h]
   by_cases hs:(zG l id).1.senses≠[]
   .rw[if_pos hs];unfold jN;rw[if_pos hs];rfl
   .rw[if_neg hs];unfold jN;rw[if_neg hs]
    by_cases H:(zG l id).1.main=0
    .rw[if_pos H,if_pos H];rfl
    .rw[if_neg H,if_neg H];exact ih
  .rw[if_neg h,if_neg h];rfl
theorem DT(l:List Ent):∀ f id,∀ x∈xO l f id,(zG l x).2=true
 |0,_,x,H=>by cases H
 |f+1,id,x,H=>by
  unfold xO at H;split at H
  .rename_i h
   rcases List.mem_cons.mp H with H | H
   .rw[H];exact h
   .split at H
    .cases H
    .exact DT l f _ x H
  .cases H
theorem P6{l:List Ent}{ws:List Int}{k:Nat}(h:k<ws.length):jN l (ws.drop k)=if (zG l ws[k]).1.senses≠[] then (zG l ws[k]).1.senses else jN l (ws.drop (k+1)):=by
 rw[List.drop_eq_getElem_cons h];rfl
theorem P7(l:List Ent)(id:Int)(M:l.length<2^40):zj Tryz.prog 50 [zm l,int id] (zZ (xM l id)):=by
 unfold xM
 rw[Ja]
 have O:=DR l id M
 have L:=DO l (l.length+1) id
 have K:=DT l (l.length+1) id
 generalize xO l (l.length+1) id=ws at O L K ⊢
 refine zn mixed Tryz.func50 rfl c_50 ?_
 simp+decide[Tryz.f50,int]
 refine zg O ?_
 simp+decide[ints]
 refine zr mixed (λk:Nat=>{n:=32,next:=1,slots:=[(0,.d (zm l)),(5,.d (ints ws)),(6,.d (int k))],own:=[]})
  (λk=>k<=ws.length/\jN l (ws.drop k)=jN l ws) (λk=>ws.length-k) 0 (by simp) (by simp+decide[int,ints]) ?_
 intro k ⟨Q,G⟩
 by_cases H:k<ws.length
 case neg=>
  have:k=ws.length:=by omega
  subst this;rw[List.drop_length] at G;rw[<-G];simp+decide[int,ints,zZ,jN]
 have F:(k:Int)<ws.length:=by omega
 have hsn:=P6 (l:=l) H
 have E:=K ws[k] (List.getElem_mem H)
 obtain⟨x,ex⟩:∃ x,ws[k]=x:=⟨_,rfl⟩
 have e1:ws[k]?=some x:=by rw[List.getElem?_eq_getElem H,ex]
 rw[ex] at hsn E
 have T:=J3 l x (by omega)
 rcases wi l x with⟨V,X⟩ | ⟨j,hj,V,X⟩
 .rw[X] at E;cases E
 rw[V] at T
 obtain⟨e,ee⟩:∃ e,l[j]=e:=⟨_,rfl⟩
 have ej:l[j]?=some e:=by rw[List.getElem?_eq_getElem hj,ee]
 rw[ee] at X
 rw[X] at hsn
 have J:(j:Int)<l.length:=by omega
 simp+decide[int,ints,H,F,ex,zm]
 refine zg T ?_
 by_cases hs:e.senses=[]
 .rw[if_neg (by simpa using hs)] at hsn
  simp+decide[int,ints,hj,J,ee,hs,Ent.row,zZ];exact⟨⟨by omega,by omega⟩,k+1,⟨H,by rw[<-hsn];exact G⟩,by omega,by simp⟩
 .rw[if_pos (by simpa using hs)] at hsn
  rw[<-G,hsn];simp+decide[int,ints,hj,J,ee,hs,Ent.row,zZ]
theorem P8(g:Lang)(H:LexFit g.lex)(p:Prt):zj Tryz.prog 104 [g.d,.agg p.row] (int (qH g.lex p)):=by
 have G:=J4 g.lex p.entry (by have:=H.len;omega)
 have F:=P7 g.lex p.entry H.len
 have E:=Qc H p.entry
 unfold qH qd
 generalize zG g.lex p.entry=r at G E ⊢
 obtain⟨e,ok⟩:=r
 simp only at G E ⊢
 have K:=KR e E p.alt
 refine zn mixed Tryz.func104 rfl c_104 ?_
 simp+decide[Tryz.f104,Lang.d,Prt.row,int]
 refine zg G ?_
 cases ok with
 |false=>simp+decide[int,Ent.row]
 |true=>
  simp+decide[int,Ent.row];refine zg K ?_
  by_cases J:0<=p.alt/\p.alt<e.forms.length
  .simp+decide[J]
   refine⟨λh1 L=>absurd L (by omega),λh=>?_⟩
   refine scp F ?_
   have M:¬p.sense<0:=by omega
   by_cases hs:((xM g.lex p.entry).length:Int)<=p.sense
   .simp+decide[zZ,M,hs]
   .simp+decide[zZ,M,hs]
  .simp+decide[J]
theorem DU(l:List Ent)(p:Prt):qd l p=if (zG l p.entry).2=true/\(0<=p.alt/\p.alt<(zG l p.entry).1.forms.length) then ((zG l p.entry).1,((zG l p.entry).1.forms[p.alt.toNat]?.getD []),true) else ((zG l p.entry).1,[],false):=rfl
theorem YB{P:Program}{all:List Oper}{n0:Nat}{vl:List Nat}{K:St->List FK->List (Nat×Obj')->Prop}{o:Oper}{r:List Oper}{st:St}{ks:List FK}{hs:List (Nat×Obj')}:
  jm P all n0 vl K (o::r) st ks hs=(Zx o.dst st.n=true/\VJ P all n0 vl o st hs (λk H=>jm P all n0 vl K r (st.put o.dst k.sym) (k::ks) H)):=rfl
theorem P9(g:Lang)(E:LexFit g.lex)(ps:List Prt)(K:ps.length<2^20):zj Tryz.prog 106 [g.d,zM ps] (ints (yG g.lex ps)):=by
 refine zn mixed Tryz.func106 rfl c_106 ?_
 simp+decide[Tryz.f106,Lang.d,zM,zl,int]
 refine zr mixed (λk:Nat=>{n:=45,next:=4,slots:=[(2,.bp 0 0),(3,.bp 1 0),(5,.ar 3),(6,.d (int k))],own:=[(0,.box 36 (zq g.d)),(1,.box 39 [.d (zl ps)]),(3,.arr 3 1 ((yG g.lex (ps.take k)).map λn=>[int n]))],moved:=[3]})
  (λk=>k<=ps.length) (λk=>ps.length-k) 0 (by simp) (by simp+decide[int,zl,yG,zq,Lang.d]) ?_
 intro k J
 by_cases H:k<ps.length
 case neg=>
  have:k=ps.length:=by omega
  subst this;rw[List.take_length];simp+decide[int,ints,zl]
 have G:(k:Int)<ps.length:=by omega
 have hsn:=Dz (l:=g.lex) H
 have F:=Qd g.lex (ps.take k)
 rw[List.length_take] at F
 obtain⟨p,ep⟩:∃ p,ps[k]=p:=⟨_,rfl⟩
 have e1:ps[k]?=some p:=by rw[List.getElem?_eq_getElem H,ep]
 rw[ep,DU] at hsn
 have L:=J4 g.lex p.entry (by have:=E.len;omega)
 have M:=Qc E p.entry
 generalize zG g.lex p.entry=r at L M hsn
 obtain⟨e,ok⟩:=r
 simp only at L M hsn
 have O:=KR e M p.alt
 simp+decide[int,zl,G,zq,Lang.d]
 refine VK mixed 15 [] (by rfl) (by rfl) (by rfl) (by rfl) ?_
 dsimp only[List.take]
 iterate 8 (rw[YB];simp+decide[-jm,int,Prt.row,H,G,ep])
 rw[YB]
 simp+decide[-jm]
 refine scp L ?_
 simp+decide[-jm]
 iterate 6 (rw[YB];simp+decide[-jm,int,Ent.row])
 refine⟨by rfl,?_⟩
 cases ok with
 |false=>
  simp only[Bool.false_eq_true,false_and,if_false,List.append_nil] at hsn;simp+decide[ints,I64];exact⟨⟨by omega,by omega⟩,k+1,H,by omega,by omega,by rw[hsn]⟩
 |true=>
  simp+decide[int,ints,Prt.row,H,G,ep];refine scp O ?_
  by_cases Q:0<=p.alt/\p.alt<e.forms.length
  .simp only[Q,and_self,if_true] at hsn
   simp+decide[I64,Q];exact⟨by omega,by unfold maxLen;omega,⟨by omega,by omega⟩,k+1,H,by omega,by omega,by rw[hsn];simp⟩
  .simp only[true_and,Q,Bool.false_eq_true,if_false,List.append_nil] at hsn
   simp+decide[I64,Q];exact⟨⟨by omega,by omega⟩,k+1,H,by omega,by omega,by rw[hsn]⟩
theorem Pa(e:Ent)(h:e.alts.length<2^40):zj Tryz.prog 49 [.agg e.row] (yl e.forms):=by
 refine zn mixed Tryz.func49 rfl c_49 ?_
 simp[Tryz.f49,Ent.row,yl,ints,Ent.forms,maxLen]
 omega
theorem DV(g:Lang)(K:LexFit g.lex)(ps:List Prt)(J:ps.length<2^20):zj Tryz.prog 107 [g.d,zM ps] (ints (zP g.lex ps)):=by
 refine zn mixed Tryz.func107 rfl c_107 ?_
 simp+decide[Tryz.f107,Lang.d,zM,zl,int]
 refine zr mixed (λk:Nat=>{n:=52,next:=4,slots:=[(2,.bp 0 0),(3,.bp 1 0),(5,.ar 3),(6,.d (int k))],own:=[(0,.box 36 (zq g.d)),(1,.box 39 [.d (zl ps)]),(3,.arr 3 1 ((zP g.lex (ps.take k)).map λn=>[int n]))],moved:=[3]})
  (λk=>k<=ps.length) (λk=>ps.length-k) 0 (by simp) (by simp+decide[int,zl,zP,zq,Lang.d]) ?_
 intro k L
 by_cases G:k<ps.length
 case neg=>
  have:k=ps.length:=by omega
  subst this;rw[List.take_length];simp+decide[int,ints,zl]
 have H:(k:Int)<ps.length:=by omega
 have hsn:=DC (l:=g.lex) G
 have E:=YA K (ps.take k)
 rw[List.length_take] at E
 obtain⟨p,ep⟩:∃ p,ps[k]=p:=⟨_,rfl⟩
 have e1:ps[k]?=some p:=by rw[List.getElem?_eq_getElem G,ep]
 rw[ep,DU] at hsn
 have M:=J4 g.lex p.entry (by have:=K.len;omega)
 have O:=Qc K p.entry
 have F:(0<=p.alt/\p.alt<(zG g.lex p.entry).1.forms.length)->((zG g.lex p.entry).1.forms[p.alt.toNat]?.getD []).length<2^20:=by
  intro h;by_cases Q:(zG g.lex p.entry).2=true
  .have:=KN K p
   unfold qd at this;rw[if_pos ⟨Q,h⟩] at this;exact this
  .rcases wi g.lex p.entry with⟨_,T⟩ | ⟨j,hj,_,T⟩
   .rw[T] at h ⊢
    have V:p.alt=0:=by have:=h.2;simp[Ent.zero,Ent.forms] at this;omega
    rw[V];decide
   .rw[T] at Q;exact absurd rfl Q
 generalize zG g.lex p.entry=r at M O hsn F
 obtain⟨e,ok⟩:=r
 simp only at M O hsn F
 have X:=KR e O p.alt
 have Y:=Pa e (by omega)
 simp+decide[int,zl,H,zq,Lang.d]
 refine VK mixed 15 [] (by rfl) (by rfl) (by rfl) (by rfl) ?_
 dsimp only[List.take]
 iterate 8 (rw[YB];simp+decide[-jm,int,Prt.row,G,H,ep])
 rw[YB]
 simp+decide[-jm]
 refine scp M ?_
 simp+decide[-jm]
 iterate 6 (rw[YB];simp+decide[-jm,int,Ent.row])
 refine⟨by rfl,?_⟩
 cases ok with
 |false=>
  simp only[Bool.false_eq_true,false_and,if_false,List.append_nil] at hsn;simp+decide[ints,I64];exact⟨⟨by omega,by omega⟩,k+1,G,by omega,by omega,by rw[hsn]⟩
 |true=>
  simp+decide[int,ints,Prt.row,G,H,ep];refine scp X ?_
  by_cases Z:0<=p.alt/\p.alt<e.forms.length
  .simp only[Z,and_self,if_true] at hsn
   have V:p.alt.toNat<e.forms.length:=by omega
   obtain⟨w,ew⟩:∃ w,e.forms[p.alt.toNat]=w:=⟨_,rfl⟩;have ew':e.forms[p.alt.toNat]?=some w:=by rw[List.getElem?_eq_getElem V,ew]
   rw[ew',Option.getD_some] at hsn F;have F:=F Z;simp+decide[Z];refine Yr mixed 11 (by rfl) (by rfl) (by rfl) (by rfl) (by simp) ?_
   simp+decide[int,Prt.row,G,H,ep,I64];refine scp Y ?_
   simp+decide[ints,Z,yl,ew,V];exact⟨by omega,by unfold maxLen;omega,⟨by omega,by omega⟩,k+1,G,by omega,by omega,by rw[hsn];simp⟩
  .simp only[true_and,Z,Bool.false_eq_true,if_false,List.append_nil] at hsn
   simp+decide[I64,Z];exact⟨⟨by omega,by omega⟩,k+1,G,by omega,by omega,by rw[hsn]⟩
def xw(S m:Nat):List Bool:=(List.range S).map λq=>m.testBit q
def x6(l:List Bool):D:=.sl (l.map λb=>[.bool b])
@[simp] theorem zli(S m:Nat):(xw S m).length=S:=by simp[xw]
theorem Qe{S m q:Nat}(h:q<S):(xw S m)[q]?=some (m.testBit q):=by simp[xw,h]
theorem KT{S m q:Nat}(h:q<(xw S m).length):(xw S m)[q]=m.testBit q:=by simp[xw]
theorem KU(S:Nat):xw S 0=List.replicate S false:=by
 apply List.ext_getElem <;> simp[xw]
theorem KV(m q j:Nat):(m ||| (1 <<< q)).testBit j=(m.testBit j || decide (q=j)):=by
 rw[Nat.testBit_or,Nat.one_shiftLeft,Nat.testBit_two_pow]
theorem DW{S m q:Nat}(h:q<S):(xw S m).set q true=xw S (qk m (q:Int)):=by
 apply List.ext_getElem
 .simp
 .intro i H G
  have hi:i<S:=by simpa using G
  rw[List.getElem_set];unfold qk;simp only[xw,List.getElem_map,List.getElem_range,Int.toNat_natCast,KV];by_cases e:q=i
  .subst e;simp
  .simp[e]
structure NetL(n:Nett):Prop where
 lo:1<=n.states
 hi:n.states<=3
 steps:∀ s∈n.steps,(0<=s.src/\s.src<n.states)/\(0<=s.dst/\s.dst<n.states)/\1<=s.cls
 final:∀ q∈n.final,0<=q/\q<n.states
 few:n.steps.length<2^40
 few2:n.final.length<2^40
theorem NetL.ok{n:Nett}(h:NetL n):KH n:=by
 refine⟨λs hs=>?_,λq hq=>?_,h.few,h.few2⟩
 .have:=h.steps s hs;have:=h.hi;omega
 .have:=h.final q hq;have:=h.hi;omega
theorem DX(n:Nett)(L:NetL n)(l:List Int)(M:∀ q∈l,0<=q/\q<n.states)(E:l.length<2^40):
  zj Tryz.prog 164 [.agg n.cells,ints l] (x6 (xw n.states.toNat (yk l))):=by
 have O:=L.lo
 have Q:=L.hi
 refine zn mixed Tryz.func164 rfl c_164 ?_
 simp+decide[Tryz.f164,Nett.cells,int,ints]
 refine⟨by omega,by omega,by unfold maxLen;omega,?_⟩
 refine zr mixed (λk:Nat=>{n:=23,next:=3,slots:=[(1,.d (ints l)),(5,.ar 2),(6,.d (int k))],own:=[(2,.arr 4 1 ((xw n.states.toNat (yk (l.take k))).map λb=>[.bool b]))],moved:=[]})
  (λk=>k<=l.length) (λk=>l.length-k) 0 (by simp) (by simp+decide[int,ints,yk,KU]) ?_
 intro k T
 by_cases H:k<l.length
 case neg=>
  have:k=l.length:=by omega
  subst this;rw[List.take_length];simp+decide[int,ints,x6]
 have G:(k:Int)<l.length:=by omega
 have V:=M l[k] (List.getElem_mem H)
 have hsn:yk (l.take (k+1))=qk (yk (l.take k)) l[k]:=by unfold yk;rw[yu H,List.foldl_append];rfl
 obtain⟨q,eq⟩:∃ q,l[k]=q:=⟨_,rfl⟩
 have e1:l[k]?=some q:=by rw[List.getElem?_eq_getElem H,eq]
 rw[eq] at V hsn
 have F:=DW (S:=n.states.toNat) (m:=yk (l.take k)) (q:=q.toNat) (by omega)
 rw[show((q.toNat:Nat):Int)=q by omega,<-hsn] at F
 have K:=Qe (S:=n.states.toNat) (m:=yk (l.take k)) (q:=q.toNat) (by omega)
 have J:(List.map (λb=>[D.bool b]) (xw n.states.toNat (yk (l.take k)))).set q.toNat [D.bool true]=List.map (λb=>[D.bool b]) (xw n.states.toNat (yk (l.take (k+1)))):=by
  rw[<-F,List.map_set]
 simp+decide[int,ints,H,G,eq,V.1,K]
 exact⟨by omega,by omega,⟨by omega,by omega⟩,k+1,H,by omega,by omega,J⟩
def YC(m:Nat)(c:Int)(out:Nat)(s:Stp):Nat:=if ku m s.src=true/\(c=0\/s.cls=c) then qk out s.dst else out
def qI(l:List Stp)(m:Nat)(c:Int):Nat:=l.foldl (YC m c) 0
theorem Pb(n:Nett)(O:NetL n)(m:Nat)(c:Int):
  zj Tryz.prog 206 [.agg n.cells,x6 (xw n.states.toNat m),int c] (x6 (xw n.states.toNat (qI n.steps m c))):=by
 have Q:=O.lo
 have T:=O.hi
 have K:=O.few
 refine zn mixed Tryz.func206 rfl c_206 ?_
 simp+decide[Tryz.f206,Nett.cells,int,ints,x6]
 refine⟨by omega,by omega,by unfold maxLen;omega,?_⟩
 refine zr mixed (λk:Nat=>{n:=45,next:=3,slots:=[(1,.d (x6 (xw n.states.toNat m))),(2,.d (int c)),(3,.bp 0 0),(7,.ar 2),(8,.d (int k))],own:=[(0,.box 33 (n.cells.map .d)),(2,.arr 4 1 ((xw n.states.toNat (qI (n.steps.take k) m c)).map λb=>[.bool b]))],moved:=[]})
  (λk=>k<=n.steps.length) (λk=>n.steps.length-k) 0 (by simp) (by simp+decide[int,ints,qI,KU,Nett.cells,x6]) ?_
 intro k V
 by_cases H:k<n.steps.length
 case neg=>
  have:k=n.steps.length:=by omega
  subst this;rw[List.take_length];simp+decide[int,ints,x6,Nett.cells,stepsD]
 have G:(k:Int)<n.steps.length:=by omega
 have X:=O.steps n.steps[k] (List.getElem_mem H)
 have hsn:qI (n.steps.take (k+1)) m c=YC m c (qI (n.steps.take k) m c) n.steps[k]:=by unfold qI;rw[yu H,List.foldl_append];rfl
 obtain⟨x,eq⟩:∃ x,n.steps[k]=x:=⟨_,rfl⟩
 have e1:n.steps[k]?=some x:=by rw[List.getElem?_eq_getElem H,eq]
 rw[eq] at X hsn
 obtain⟨⟨q1,q2⟩,⟨q3,q4⟩,q5⟩:=X
 have Y:=Qe (S:=n.states.toNat) (m:=m) (q:=x.src.toNat) (by omega)
 have F:=DW (S:=n.states.toNat) (m:=qI (n.steps.take k) m c) (q:=x.dst.toNat) (by omega)
 rw[show((x.dst.toNat:Nat):Int)=x.dst by omega] at F
 have J:=Qe (S:=n.states.toNat) (m:=qI (n.steps.take k) m c) (q:=x.dst.toNat) (by omega)
 have E:(List.map (λb=>[D.bool b]) (xw n.states.toNat (qI (n.steps.take k) m c))).set x.dst.toNat [D.bool true]=List.map (λb=>[D.bool b]) (xw n.states.toNat (qk (qI (n.steps.take k) m c) x.dst)):=by
  rw[<-F,List.map_set]
 unfold YC ku at hsn
 cases Z:m.testBit x.src.toNat with
 |false=>
  rw[Z] at Y hsn;rw[if_neg (by simp)] at hsn
  simp+decide[int,ints,H,G,eq,q1,Y,x6,Nett.cells,stepsD,Stp.row];exact⟨by omega,⟨by omega,by omega⟩,k+1,H,by omega,by omega,by rw[hsn]⟩
 |true=>
  rw[Z] at Y hsn;by_cases A:c=0\/x.cls=c
  .rw[if_pos ⟨rfl,A⟩] at hsn
   simp+decide[int,ints,H,G,eq,q1,q3,Y,x6,Nett.cells,stepsD,Stp.row,J];refine⟨by omega,λB=>⟨λh=>⟨by omega,by omega,⟨by omega,by omega⟩,k+1,H,by omega,by omega,by rw[hsn];exact E⟩,λh=>absurd A (by rintro(C | C);exact B C;exact h C)⟩,λB=>⟨by omega,by omega,⟨by omega,by omega⟩,k+1,H,by omega,by omega,by rw[hsn];exact E⟩⟩
  .rw[if_neg (λh=>A h.2)] at hsn
   have L:¬c=0:=λh=>A (.inl h)
   have M:¬x.cls=c:=λh=>A (.inr h)
   simp+decide[int,ints,H,G,eq,q1,Y,x6,Nett.cells,stepsD,Stp.row,L,M];exact⟨by omega,⟨by omega,by omega⟩,k+1,H,by omega,by omega,by rw[hsn]⟩
def jO(S a b:Nat):Bool:=(List.range S).any λq=>a.testBit q&&b.testBit q
theorem Pd(S a b:Nat)(K:S<=3):zj Tryz.prog 162 [x6 (xw S a),x6 (xw S b)] (.bool (jO S a b)):=by
 refine zn mixed Tryz.func162 rfl c_162 ?_
 simp+decide[Tryz.f162,x6]
 refine zr mixed (λk:Nat=>{n:=22,next:=0,slots:=[(0,.d (x6 (xw S a))),(1,.d (x6 (xw S b))),(5,.d (int k))],own:=[],moved:=[]})
  (λk=>k<=S/\∀ j,j<k->(a.testBit j&&b.testBit j)=false) (λk=>S-k) 0 (by simp) (by simp+decide[int,x6]) ?_
 intro k ⟨J,L⟩
 by_cases H:k<S
 case neg=>
  have:k=S:=by omega
  subst this;have:jO k a b=false:=by
   unfold jO;rw[List.any_eq_false];intro j hj;rw[L j (List.mem_range.mp hj)];decide
  rw[this];simp+decide[int,x6]
 have G:(k:Int)<S:=by omega
 have M:=Qe (S:=S) (m:=a) (q:=k) H
 have O:=Qe (S:=S) (m:=b) (q:=k) H
 have E:(a.testBit k&&b.testBit k)=false->∀ j,j<k+1->(a.testBit j&&b.testBit j)=false:=by
  intro h j hj;rcases Nat.lt_succ_iff_lt_or_eq.mp hj with Q | Q
  .exact L j Q
  .rw[Q];exact h
 have F:(a.testBit k&&b.testBit k)=true->jO S a b=true:=by
  intro h;unfold jO;rw[List.any_eq_true];exact⟨k,List.mem_range.mpr H,h⟩
 cases T:a.testBit k with
 |false=>
  rw[T] at M;simp+decide[int,H,G,x6,KT,T];exact⟨⟨by omega,by omega⟩,k+1,⟨H,λj hj=>by simpa using E (by rw[T];rfl) j hj⟩,by omega,by omega⟩
 |true=>
  rw[T] at M;cases V:b.testBit k with
  |false=>
   rw[V] at O;simp+decide[int,H,G,x6,KT,T,V];exact⟨⟨by omega,by omega⟩,k+1,⟨H,λj hj=>by simpa using E (by rw[T,V];rfl) j hj⟩,by omega,by omega⟩
  |true=>
   rw[V] at O;rw[F (by rw[T,V];rfl)]
   simp+decide[int,H,G,x6,KT,T,V]
theorem Pe{S m:Nat}{q:Int}(H:m<2^S)(G:0<=q)(F:q<S):qk m q<2^S:=by
 unfold qk
 refine Nat.or_lt_two_pow H ?_
 rw[Nat.one_shiftLeft]
 exact Nat.pow_lt_pow_right (by omega) (by omega)
theorem DY{n:Nett}(H:NetL n)(m:Nat){c:Int}(G:1<=c):qI n.steps m c=yv n.steps m c:=by
 unfold qI yv
 congr 1
 funext out s
 unfold YC xj
 have:¬c=0:=by omega
 simp[this]
theorem Pf{n:Nett}(H:NetL n)(m:Nat){c:Int}(G:c<1):yv n.steps m c=0:=by
 unfold yv
 have key:∀ l:List Stp,(∀ s∈l,1<=s.cls)->l.foldl (xj m c) 0=0:=by
  intro l;induction l with
  |nil=>intro _;rfl
  |cons s l ih=>
   intro h;rw[List.foldl_cons];have F:=h s (List.mem_cons_self ..);have:xj m c 0 s=0:=by unfold xj;rw[if_neg (λh=>by omega)]
   rw[this];exact ih λx E=>h x (List.mem_cons_of_mem _ E)
 exact key _ λs hs=>(H.steps s hs).2.2
theorem DZ{m:Nat}{c:Int}{S:Nat}:∀ (l:List Stp) (out:Nat),(∀ s∈l,0<=s.dst/\s.dst<S)->out<2^S->l.foldl (xj m c) out<2^S
 | [],out,_,h=>h
 |s::l,out,H,h=>by
  rw[List.foldl_cons];refine DZ l _ (λx G=>H x (List.mem_cons_of_mem _ G)) ?_
  have:=H s (List.mem_cons_self ..)
  unfold xj;split
  .exact Pe h this.1 this.2
  .exact h
theorem KW{n:Nett}(H:NetL n)(m:Nat)(c:Int):yv n.steps m c<2^n.states.toNat:=
 DZ _ _ (λs hs=>by have:=(H.steps s hs).2.1;have:=H.lo;omega) (Nat.two_pow_pos _)
theorem Pg{n:Nett}(c:Int):yv n.steps 0 c=0:=by
 unfold yv
 induction n.steps with
 |nil=>rfl
 |cons s l ih=>
  rw[List.foldl_cons];have:xj 0 c 0 s=0:=by unfold xj ku;rw[if_neg (λh=>by simp at h)]
  rw[this];exact ih
theorem C0{n:Nett}:∀ cs:List Int,cs.foldl (λm c=>yv n.steps m c) 0=0
 | []=>rfl
 |c::cs=>by rw[List.foldl_cons,Pg];exact C0 cs
theorem Ph{n:Nett}(H:NetL n){cs:List Int}{k:Nat}(G:k<cs.length)(F:cs[k]<1):yB n.steps cs=0:=by
 unfold yB
 have:cs=cs.take k++cs[k]::cs.drop (k+1):=by rw[<-List.drop_eq_getElem_cons G,List.take_append_drop]
 rw[this,List.foldl_append,List.foldl_cons,Pf H _ F]
 exact C0 _
theorem Pi{n:Nett}(H:NetL n)(cs:List Int):yB n.steps cs<2^n.states.toNat:=by
 unfold yB
 have key:∀ (cs:List Int) (m:Nat),m<2^n.states.toNat->cs.foldl (λm c=>yv n.steps m c) m<2^n.states.toNat:=by
  intro cs;induction cs with
  |nil=>intro m h;exact h
  |cons c cs ih=>intro m h;rw[List.foldl_cons];exact ih _ (KW H _ _)
 refine key cs 1 ?_
 have:=H.lo
 exact Nat.one_lt_two_pow (by omega)
theorem Pj(n:Nett)(E:NetL n)(l:List Int)(K:l.length<2^40):zj Tryz.prog 163 [.agg n.cells,ints l] (x6 (xw n.states.toNat (yB n.steps l))):=by
 have J:=E.lo
 have L:=E.hi
 have M:=DX n E [0] (by intro q O;rw[List.mem_singleton] at O;omega) (by decide)
 have Q:yk [0]=1:=by decide
 rw[Q] at M
 refine zn mixed Tryz.func163 rfl c_163 ?_
 simp+decide[Tryz.f163,Nett.cells,int,ints,x6]
 refine FU (by rfl) M (by simp) ?_
 simp+decide[x6]
 refine zr mixed (λk:Nat=>{n:=32,next:=1,slots:=[(1,.d (ints l)),(2,.bp 0 0),(5,.d (x6 (xw n.states.toNat (yB n.steps (l.take k))))),(6,.d (int k))],own:=[(0,.box 33 (n.cells.map .d))],moved:=[]})
  (λk=>k<=l.length) (λk=>l.length-k) 0 (by simp) (by simp+decide[int,ints,yB,x6,Nett.cells]) ?_
 intro k T
 by_cases H:k<l.length
 case neg=>
  have:k=l.length:=by omega
  subst this;rw[List.take_length];simp+decide[int,ints,x6,Nett.cells]
 have G:(k:Int)<l.length:=by omega
 have hsn:yB n.steps (l.take (k+1))=yv n.steps (yB n.steps (l.take k)) l[k]:=by unfold yB;rw[yu H,List.foldl_append];rfl
 have F:=λh=>Ph E H h
 obtain⟨c,ec⟩:∃ c,l[k]=c:=⟨_,rfl⟩
 have e1:l[k]?=some c:=by rw[List.getElem?_eq_getElem H,ec]
 rw[ec] at hsn F
 have V:=Pb n E (yB n.steps (l.take k)) c
 by_cases X:c<1
 .rw[F X]
  simp+decide[int,ints,H,G,ec,X,x6,Nett.cells,KU];exact⟨by omega,by omega,by unfold maxLen;omega⟩
 .rw[DY E _ (by omega),<-hsn] at V
  simp+decide[int,ints,H,G,ec,X,x6,Nett.cells];refine scp V ?_
  simp+decide[x6];exact⟨⟨by omega,by omega⟩,k+1,H,by omega,rfl,by simp⟩
theorem Pk:∀ (S:Fin 4) (a b:Fin 8),a.val<2^S.val->jO S.val a.val b.val=decide (a.val &&& b.val≠0):=by decide +kernel
theorem Pl(n:Nett)(E:NetL n)(cs:List Int)(K:cs.length<2^40):zj Tryz.prog 105 [.agg n.cells,ints cs] (.bool (kz n cs)):=by
 have J:=E.lo
 have L:=E.hi
 have M:=Pj n E cs K
 have O:=DX n E n.final E.final E.few2
 have Q:=Pd n.states.toNat (yB n.steps cs) (yk n.final) (by omega)
 have G:=Pi E cs
 have H:yB n.steps cs<8:=Nat.lt_of_lt_of_le G (Nat.pow_le_pow_right (by omega) (show n.states.toNat<=3 by omega))
 have F:=ZB n.final 0 (λq T=>E.ok.2.1 q T) (by omega)
 have heq:jO n.states.toNat (yB n.steps cs) (yk n.final)=kz n cs:=by
  unfold kz;exact Pk ⟨n.states.toNat,by omega⟩ ⟨_,H⟩ ⟨_,F⟩ G
 rw[heq] at Q
 refine zn mixed Tryz.func105 rfl c_105 ?_
 simp+decide[Tryz.f105,Nett.cells,int,ints]
 refine scp M ?_
 simp+decide[x6]
 refine scp O ?_
 simp+decide[x6]
 refine scp Q ?_
 simp+decide
structure LangL(g:Lang):Prop extends LangOk g where
 light:NetL g.net
theorem Pm(g:Lang)(Q:LangL g)(ps:List Prt)(T:ps.length<2^20):zj Tryz.prog 46 [g.d,zM ps] (int (ql g ps)):=by
 refine zn mixed Tryz.func46 rfl c_46 ?_
 obtain⟨R,V⟩:∃ R,ql g ps=R:=⟨_,rfl⟩
 rw[V]
 unfold ql at V
 by_cases X:ps.length=0
 .rw[if_pos X] at V
  subst V;simp+decide[Tryz.f46,Lang.d,zM,zl,int,X];done
 rw[if_neg X] at V
 by_cases Y:4<ps.length
 .rw[if_pos Y] at V
  subst V;have G:(4:Int)<ps.length:=by omega
  have L:¬(ps.length:Int)=0:=by omega
  simp+decide[Tryz.f46,Lang.d,zM,zl,int,X,G];done
 rw[if_neg Y] at V
 have G:¬(4:Int)<ps.length:=by omega
 have L:¬(ps.length:Int)=0:=by omega
 simp+decide[Tryz.f46,Lang.d,zM,zl,int,X,G]
 refine zr mixed (λk:Nat=>{n:=44,next:=2,slots:=[(2,.bp 0 0),(3,.bp 1 0),(5,.d (int k))],own:=[(0,.box 36 (zq g.d)),(1,.box 39 [.d (zl ps)])],moved:=[]})
  (λk=>k<=ps.length/\vF g.lex (ps.drop k)=vF g.lex ps) (λk=>ps.length-k) 0 (by simp) (by simp+decide[int,zl,zq,Lang.d]) ?_
 intro k ⟨Z,F⟩
 by_cases H:k<ps.length
 case neg=>
  have:k=ps.length:=by omega
  subst this;rw[List.drop_length] at F;rw[<-F] at V;have A:vF g.lex []=0:=rfl
  rw[A,if_neg (by simp)] at V
  have B:=P9 g Q.lex ps T;have C:=DV g Q.lex ps T;have M:=Qd g.lex ps;have I:=Pl g.net Q.light (yG g.lex ps) (by omega)
  have O:=YA Q.lex ps;simp+decide[int,zl,zq,Lang.d];refine scp B ?_
  simp+decide
  refine scp I ?_
  cases J:kz g.net (yG g.lex ps) with
  |false=>
   rw[if_pos J] at V;subst V;simp+decide
  |true=>
   rw[if_neg (by rw[J];decide)] at V
   simp+decide
   refine zg C ?_
   by_cases N:24<(zP g.lex ps).length
   .rw[if_pos N] at V
    subst V;have E:(24:Int)<(zP g.lex ps).length:=by omega
    simp+decide[ints,E]
   .rw[if_neg N] at V
    subst V;have E:¬(24:Int)<(zP g.lex ps).length:=by omega
    simp+decide[ints,E]
 have K:(k:Int)<ps.length:=by omega
 have hsn:=DK (l:=g.lex) H
 rw[F] at hsn
 obtain⟨p,ep⟩:∃ p,ps[k]=p:=⟨_,rfl⟩
 have e1:ps[k]?=some p:=by rw[List.getElem?_eq_getElem H,ep]
 rw[ep] at hsn
 have P:=P8 g Q.lex p
 generalize qH g.lex p=r at P hsn
 simp+decide[int,zl,Prt.row,H,K,ep,zq,Lang.d]
 refine scp P ?_
 by_cases S:r=0
 .rw[if_pos S] at hsn
  subst S;simp+decide[int,I64];exact⟨⟨by omega,by omega⟩,k+1,⟨H,hsn.symm⟩,by omega,by simp⟩
 .rw[if_neg S] at hsn
  have:R=r:=by rw[<-V,hsn,if_pos S]
  subst this;simp+decide[int,S]
theorem C2(inv:List Phon)(n:Int)(c:Cls)(F:inv.length<2^62):zj Tryz.prog 261 [.agg [zI inv],int n,.agg c.row] (.bool (vZ inv n c)):=by
 refine zn mixed Tryz.func261 rfl c_261 ?_
 simp+decide[Tryz.f261,int,Cls.row]
 refine scp (J2 inv n) ?_
 by_cases hs:yS inv n=true
 .have G:=hs
  simp only[yS,Bool.and_eq_true,decide_eq_true_eq] at G;have H:n.toNat-1<inv.length:=by omega
  have e1:inv[n.toNat-1]?=some inv[n.toNat-1]:=List.getElem?_eq_getElem H
  have e2:¬n<1:=by omega
  simp+decide[zI,hs,H,Phon.row,int,I64,vZ];omega
 .simp+decide[hs,vZ]
theorem C3{inv:List Phon}{cs:List Cls}{ws:List Int}(h:ws.length=cs.length):jM inv cs ws=true↔∀ j (H:j<cs.length) (G:j<ws.length),vZ inv ws[j] cs[j]=true:=by
 unfold jM
 rw[List.all_eq_true]
 constructor
 .intro F j H G
  exact F (ws[j],cs[j]) (by rw[List.mem_iff_getElem];exact⟨j,by simp;omega,by simp⟩)
 .intro F x E
  obtain⟨j,hj,e⟩:=List.mem_iff_getElem.mp E;rw[<-e];simp only[List.length_zip] at hj;simp only[List.getElem_zip];exact F j (by omega) (by omega)
theorem Pn(inv:List Phon)(P:inv.length<2^62)(r:Rule)(S:RuleFit r)(w:List Int)(W:w.length<2^40)(k:Nat)(hk:k<w.length):
  zj Tryz.prog 229 [.agg [zI inv],.agg r.row,ints w,int k] (.bool (wm inv r w k)):=by
 obtain⟨h1,h2,h3⟩:=S
 obtain⟨x,ex⟩:∃ x,w[k]=x:=⟨_,rfl⟩
 have e1:w[k]?=some x:=by rw[List.getElem?_eq_getElem hk,ex]
 have T:(k:Int)<w.length:=by omega
 have hH:=Om r.src x (by omega)
 obtain⟨R,hR⟩:∃ R,wm inv r w k=R:=⟨_,rfl⟩
 rw[hR]
 unfold wm at hR
 rw[e1,Option.getD_some] at hR
 obtain⟨src,dst,left,right,beg,fin⟩:=r
 simp only at h1 h2 h3 hH hR
 by_cases L:x∈src/\left.length<=k/\k+1+right.length<=w.length/\¬(beg=true/\left.length<k)/\¬(fin=true/\k+1+right.length<w.length)
 case neg=>
  refine zn mixed Tryz.func229 rfl c_229 ?_
  simp+decide[Tryz.f229,int,Rule.row,xc,I64];refine⟨by omega,by omega,by omega,?_⟩
  simp+decide[ints,ex,hk,T];refine scp hH ?_
  by_cases hx:x∈src
  case neg=>
   have:R=false:=by rw[<-hR];simp[hx]
   subst this;simp+decide[hx]
  by_cases hf:left.length<=k
  case neg=>
   have:R=false:=by rw[<-hR];simp[hf]
   subst this;have G:(k:Int)-left.length<0:=by omega
   simp+decide[hx,G]
  have G:¬(k:Int)-left.length<0:=by omega
  by_cases ht:k+1+right.length<=w.length
  case neg=>
   have:R=false:=by rw[<-hR];simp[ht]
   subst this;have F:(w.length:Int)<k+1+right.length:=by omega
   simp+decide[hx,G,F]
  have F:¬(w.length:Int)<k+1+right.length:=by omega
  by_cases hb:beg=true/\left.length<k
  case pos=>
   obtain⟨X,O⟩:=hb;subst X;have:R=false:=by rw[<-hR];simp[O]
   subst this;have K:¬((k:Int)-left.length=0):=by omega
   simp+decide[hx,G,F,K]
  by_cases he:fin=true/\k+1+right.length<w.length
  case pos=>
   obtain⟨Y,Q⟩:=he;subst Y;have:R=false:=by rw[<-hR];simp[Q]
   subst this;have J:¬((k:Int)+1+right.length=w.length):=by omega
   cases beg
   .simp+decide[hx,G,F,J]
   .have K:(k:Int)-left.length=0:=by simp at hb;omega
    simp+decide[hx,F,J,K]
  exact absurd ⟨hx,hf,ht,hb,he⟩ L
 obtain⟨hx,hf,ht,hb,he⟩:=L
 have Z:((w.take k).drop (k-left.length)).length=left.length:=by rw[List.length_drop,List.length_take];omega
 have A:((w.take (k+1+right.length)).drop (k+1)).length=right.length:=by rw[List.length_drop,List.length_take];omega
 have gL:∀ j (h1:j<left.length),∃ h2,((w.take k).drop (k-left.length))[j]'h2=w[k-left.length+j]'(by omega):=λj h1=>⟨by omega,by rw[List.getElem_drop,List.getElem_take]⟩
 have gR:∀ j (h1:j<right.length),∃ h2,((w.take (k+1+right.length)).drop (k+1))[j]'h2=w[k+1+j]'(by omega):=λj h1=>⟨by omega,by rw[List.getElem_drop,List.getElem_take]⟩
 have iL:=C3 (inv:=inv) Z
 have iR:=C3 (inv:=inv) A
 have O:(beg&&decide (left.length<k))=false:=by
  cases beg
  .rfl
  .simp at hb;simp[hb]
 have Q:(fin&&decide (k+1+right.length<w.length))=false:=by
  cases fin
  .rfl
  .simp at he;simp[he]
 rw[O,Q] at hR
 have hR:R=(jM inv left ((w.take k).drop (k-left.length))&&jM inv right ((w.take (k+1+right.length)).drop (k+1))):=by rw[<-hR];simp[hx,hf,ht]
 refine FT Tryz.func229 rfl c_229 ?_
 let S1:St:={n:=103,next:=2,slots:=[(2,.d (ints w)),(3,.d (int k)),(4,.bp 0 0),(5,.bp 1 0),(9,.d (int ((k:Int)-left.length)))],own:=[(0,.box 24 [.d (zI inv)]),(1,.box 90 [.d (ints src),.d (ints dst),.d (xc left),.d (xc right),.d (.bool beg),.d (.bool fin)])]}
 let S2:St:={n:=103,next:=2,slots:=[(2,.d (ints w)),(3,.d (int k)),(4,.bp 0 0),(5,.bp 1 0)],own:=[(0,.box 24 [.d (zI inv)]),(1,.box 90 [.d (ints src),.d (ints dst),.d (xc left),.d (xc right),.d (.bool beg),.d (.bool fin)])]}
 have G:¬(k:Int)-left.length<0:=by omega
 have F:¬(w.length:Int)<k+1+right.length:=by omega
 refine jI mixed 3 S1 rfl ?_ ?_
 .simp+decide[Tryz.f229,yn,int,Rule.row,xc,I64,S1]
  refine⟨by omega,by omega,by omega,?_⟩
  simp+decide[ints,ex,hk,T];refine scp hH ?_
  have B:beg=true->(k:Int)-left.length=0:=by intro e;subst e;simp at hb;omega
  have V:fin=true->(k:Int)+1+right.length=w.length:=by intro e;subst e;simp at he;omega
  cases beg with
  |false=>
   cases fin with
   |false=>simp+decide[hx,G,F,qW]
   |true=>
    have J:=V rfl;simp+decide[hx,G,J,qW]
  |true=>
   have K:=B rfl;cases fin with
   |false=>simp+decide[hx,F,K,qW]
   |true=>
    have J:=V rfl;simp+decide[hx,K,J,qW]
 refine zL mixed ?_
 simp+decide[Tryz.f229,yL,int,ints,xc,S1]
 refine zr mixed (λj:Nat=>{n:=103,next:=2,slots:=[(2,.d (ints w)),(3,.d (int k)),(4,.bp 0 0),(5,.bp 1 0),(9,.d (int ((k:Int)-left.length))),(62,.d (int left.length)),(63,.d (int j))],own:=[(0,.box 24 [.d (zI inv)]),(1,.box 90 [.d (ints src),.d (ints dst),.d (xc left),.d (xc right),.d (.bool beg),.d (.bool fin)])]})
  (λj=>j<=left.length/\∀ i (h1:i<left.length) (h2:i<j),vZ inv (w[k-left.length+i]'(by omega)) left[i]=true) (λj=>left.length-j) 0 (by simp) (by simp+decide[int,ints,xc]) ?_
 intro j ⟨hj,hp⟩
 by_cases H:j<left.length
 .have E:(j:Int)<left.length:=by omega
  obtain⟨h2,gv⟩:=gL j H;have N:=hp;obtain⟨c,ec⟩:∃ c,left[j]=c:=⟨_,rfl⟩;have ec1:left[j]?=some c:=by rw[List.getElem?_eq_getElem H,ec]
  have M:k-left.length+j<w.length:=by omega
  obtain⟨y,ey⟩:∃ y,w[k-left.length+j]=y:=⟨_,rfl⟩;have ey1:w[k-left.length+j]?=some y:=by rw[List.getElem?_eq_getElem M,ey]
  have ix:(k:Int)-left.length+j=((k-left.length+j:Nat):Int):=by omega
  have hI:=C2 inv y c P;have ixT:((k:Int)-left.length+j).toNat=k-left.length+j:=by omega
  have ix0:0<=(k:Int)-left.length+j:=by omega
  have ix1:(k:Int)-left.length+j<w.length:=by omega
  simp+decide[int,ints,xc,H,E,ec,ixT,ix0,ix1,M,ey,Cls.row,I64];refine⟨⟨by omega,by omega⟩,?_⟩
  refine scp hI ?_
  cases hc:vZ inv y c with
  |false=>
   have:R=false:=by
    rw[hR,Bool.and_eq_false_iff];left
    rw[Bool.eq_false_iff,Ne,iL];intro hh;have:=hh j H h2
    rw[gv,ey,ec,hc] at this;cases this
   subst this;simp+decide
  |true=>
   simp+decide
   refine⟨⟨by omega,by omega⟩,j+1,⟨H,λi h1 h2=>?_⟩,by omega,by simp⟩
   rcases Nat.lt_succ_iff_lt_or_eq.mp h2 with h' | h'
   .exact hp i h1 h'
   .subst h'
    rw[ey,ec];exact hc
 .have:j=left.length:=by omega
  subst this;have C:jM inv left ((w.take k).drop (k-left.length))=true:=by
   rw[iL];intro i h1 h2;obtain⟨h3,gv⟩:=gL i h1;rw[gv];exact hp i h1 h1
  rw[C,Bool.true_and] at hR;simp+decide[int,ints,xc];refine zr mixed (λj:Nat=>{n:=103,next:=2,slots:=[(2,.d (ints w)),(3,.d (int k)),(4,.bp 0 0),(5,.bp 1 0),(83,.d (int right.length)),(84,.d (int j))],own:=[(0,.box 24 [.d (zI inv)]),(1,.box 90 [.d (ints src),.d (ints dst),.d (xc left),.d (xc right),.d (.bool beg),.d (.bool fin)])]})
   (λj=>j<=right.length/\∀ i (h1:i<right.length) (h2:i<j),vZ inv (w[k+1+i]'(by omega)) right[i]=true) (λj=>right.length-j) 0 (by simp) (by simp+decide[int,ints,xc]) ?_
  intro j ⟨hj,hp⟩;by_cases H:j<right.length
  .have E:(j:Int)<right.length:=by omega
   obtain⟨h2,gv⟩:=gR j H;obtain⟨c,ec⟩:∃ c,right[j]=c:=⟨_,rfl⟩;have ec1:right[j]?=some c:=by rw[List.getElem?_eq_getElem H,ec]
   have M:k+1+j<w.length:=by omega
   obtain⟨y,ey⟩:∃ y,w[k+1+j]=y:=⟨_,rfl⟩;have ey1:w[k+1+j]?=some y:=by rw[List.getElem?_eq_getElem M,ey]
   have hI:=C2 inv y c P;have ixT:((k:Int)+1+j).toNat=k+1+j:=by omega
   have ix0:0<=(k:Int)+1+j:=by omega
   have ix1:(k:Int)+1+j<w.length:=by omega
   simp+decide[int,ints,xc,H,E,ec,ixT,ix0,ix1,M,ey,Cls.row,I64];refine⟨⟨by omega,by omega⟩,⟨by omega,by omega⟩,?_⟩
   refine scp hI ?_
   cases hc:vZ inv y c with
   |false=>
    have:R=false:=by
     rw[hR,Bool.eq_false_iff,Ne,iR];intro hh;have:=hh j H h2
     rw[gv,ey,ec,hc] at this;cases this
    subst this;simp+decide
   |true=>
    simp+decide
    refine⟨⟨by omega,by omega⟩,j+1,⟨H,λi h1 h2=>?_⟩,by omega,by simp⟩
    rcases Nat.lt_succ_iff_lt_or_eq.mp h2 with h' | h'
    .exact hp i h1 h'
    .subst h'
     rw[ey,ec];exact hc
  .have:j=right.length:=by omega
   subst this;have I:jM inv right ((w.take (k+1+right.length)).drop (k+1))=true:=by
    rw[iR];intro i h1 h2;obtain⟨h3,gv⟩:=gR i h1;rw[gv];exact hp i h1 h1
   have:R=true:=by rw[hR,I]
   subst this;simp+decide[int,ints,xc]
structure RuleL(r:Rule):Prop extends RuleOk r where
 once:r.src.Nodup
def u7(w:List Int):Prop:=∀ x∈w,x≠0
theorem Po(inv:List Phon)(I:inv.length<2^62)(r:Rule)(N:RuleL r)(w:List Int)(P:w.length<2^40)(S:u7 w):
  zj Tryz.prog 196 [.agg [zI inv],.agg r.row,ints w] (ints (kC inv r w)):=by
 rw[<-KQ]
 refine zn mixed Tryz.func196 rfl c_196 ?_
 simp+decide[Tryz.f196,ints,Rule.row]
 refine zr mixed (λk:Nat=>{n:=55,next:=4,slots:=[(2,.d (ints w)),(3,.bp 0 0),(4,.bp 1 0),(7,.ar 3),(12,.d (int w.length)),(13,.d (int k))],own:=[(0,.box 24 [.d (zI inv)]),(1,.box 90 (r.row.map .d)),(3,.arr 3 1 ((wQ inv r w k).map λn=>[int n]))],moved:=[3]})
  (λk=>k<=w.length) (λk=>w.length-k) 0 (by simp) (by simp+decide[int,ints,Rule.row,wQ]) ?_
 intro k W
 by_cases H:k<w.length
 case neg=>
  have:k=w.length:=by omega
  subst this;simp+decide[int,ints]
 have G:(k:Int)<w.length:=by omega
 have hsn:=KP (inv:=inv) (r:=r) H
 have V:=J9 inv r w k W
 have hS:=Pn inv I r N.toRuleFit w P k H
 have Q:=S w[k] (List.getElem_mem H)
 obtain⟨x,ex⟩:∃ x,w[k]=x:=⟨_,rfl⟩
 have e1:w[k]?=some x:=by rw[List.getElem?_eq_getElem H,ex]
 rw[ex] at hsn Q
 have F:=KO r.src x
 have L:x∈r.src->∃ j:Nat,∃ hj:j<r.src.length,kB r.src x=j/\r.src[j]=x:=by
  intro hx;unfold kB at F ⊢;cases hq:r.src.findIdx? (· = x) with
  |none=>rw[hq] at F;exact absurd (F.2 hx) (by decide)
  |some j=>
   rw[List.findIdx?_eq_some_iff_getElem] at hq;exact⟨j,hq.1,rfl,by simpa using hq.2.1⟩
 have K:wm inv r w k=true->x∈r.src:=by
  intro h;unfold wm at h;simp only[Bool.and_eq_true,decide_eq_true_eq] at h;have:=h.1.1.1.1.1.1
  rwa [e1,Option.getD_some] at this
 have X:=N.dst
 have B:=N.src
 unfold uH at hsn
 simp+decide[int,ints,Rule.row,H,G,ex]
 refine zg hS ?_
 cases hb:wm inv r w k with
 |false=>
  rw[hb] at hsn;simp only[Bool.false_eq_true,if_false] at hsn;simp+decide[I64,Q];exact⟨by omega,by unfold maxLen;omega,⟨by omega,by omega⟩,k+1,H,by omega,by omega,by rw[hsn];simp⟩
 |true=>
  rw[hb] at hsn;simp only[if_true] at hsn;obtain⟨j,hj,ej,exj⟩:=L (K hb);have Y:j<r.dst.length:=by omega
  obtain⟨y,ey⟩:∃ y,r.dst[j]=y:=⟨_,rfl⟩;have e2:r.dst[j]?=some y:=by rw[List.getElem?_eq_getElem Y,ey]
  rw[ej,Int.toNat_natCast,e2,Option.getD_some] at hsn;have C:(j:Int)<r.dst.length:=by omega
  simp+decide
  refine zr mixed (λm:Nat=>{n:=55,next:=4,slots:=[(2,.d (ints w)),(3,.bp 0 0),(4,.bp 1 0),(7,.ar 3),(8,.d (int k)),(9,.d (int (if j<m then y else x))),(12,.d (int w.length)),(13,.d (int k)),(27,.d (int r.src.length)),(28,.d (int m))],own:=[(0,.box 24 [.d (zI inv)]),(1,.box 90 (r.row.map .d)),(3,.arr 3 1 ((wQ inv r w k).map λn=>[int n]))],moved:=[3]})
   (λm=>m<=r.src.length) (λm=>r.src.length-m) 0 (by simp) (by simp+decide[int,ints,Rule.row]) ?_
  intro m hm;by_cases E:m<r.src.length
  .have J:(m:Int)<r.src.length:=by omega
   have Z:m<r.dst.length:=by omega
   have M:(m:Int)<r.dst.length:=by omega
   obtain⟨z,ez⟩:∃ z,r.src[m]=z:=⟨_,rfl⟩;have ez1:r.src[m]?=some z:=by rw[List.getElem?_eq_getElem E,ez]
   by_cases T:m=j
   .subst T
    have O:z=x:=by rw[<-ez,exj]
    subst O;simp+decide[int,ints,Rule.row,I64,E,J,H,G,ex,ez,Z,M,ey];exact⟨⟨by omega,by omega⟩,m+1,E,by omega,λh=>absurd h (by omega),by omega⟩
   .have O:¬z=x:=by
     intro h;have hp:=List.pairwise_iff_getElem.mp N.once;rcases Nat.lt_or_gt_of_ne T with h' | h'
     .exact hp m j E hj h' (by rw[ez,exj,h])
     .exact hp j m hj E h' (by rw[ez,exj,h])
    have A:(j<m+1)↔(j<m):=by omega
    simp+decide[int,ints,Rule.row,I64,E,J,H,G,ex,ez,O];exact⟨⟨by omega,by omega⟩,m+1,E,by omega,by simp only[A],by omega⟩
  .have:m=r.src.length:=by omega
   subst this;by_cases hy:y=0
   .rw[if_pos hy,List.append_nil] at hsn
    simp+decide[int,ints,Rule.row,hj,hy,I64];exact⟨⟨by omega,by omega⟩,k+1,H,by omega,by omega,by rw[hsn]⟩
   .rw[if_neg hy] at hsn
    simp+decide[int,ints,Rule.row,hj,hy,I64];exact⟨by omega,by unfold maxLen;omega,⟨by omega,by omega⟩,k+1,H,by omega,by omega,by rw[hsn];simp⟩
theorem Pp{inv:List Phon}{r:Rule}{w:List Int}{k:Nat}{x:Int}(H:x≠0):u7 (uH inv r w k x):=by
 unfold uH u7
 intro y G
 split at G
 .split at G
  .cases G
  .rename_i h;rw[List.mem_singleton] at G;rw[G];exact h
 .rw[List.mem_singleton] at G;rw[G];exact H
theorem Pq{inv:List Phon}{r:Rule}{w:List Int}(H:u7 w):u7 (kC inv r w):=by
 intro y G
 unfold kC at G
 rw[List.mem_flatten] at G
 obtain⟨l,F,G⟩:=G
 rw[List.mem_map] at F
 obtain⟨⟨a,i⟩,E,rfl⟩:=F
 refine Pp (H a ?_) y G
 exact(List.mem_zipIdx' E).2▸List.getElem_mem _
theorem C4{inv:List Phon}:∀ (rs:List Rule) {w:List Int},u7 w->u7 (xk inv rs w)
 | [],_,h=>h
 |r::rs,w,h=>by
  have:=C4 (inv:=inv) rs (Pq (inv:=inv) (r:=r) h)
  exact this
theorem Pr(inv:List Phon)(K:inv.length<2^62)(rs:List Rule)(J:∀ r∈rs,RuleL r)(L:rs.length<2^40)(w:List Int)(M:w.length<2^40)(O:u7 w):
  zj Tryz.prog 141 [.agg [zI inv],yO rs,ints w] (ints (xk inv rs w)):=by
 refine zn mixed Tryz.func141 rfl c_141 ?_
 simp+decide[Tryz.f141,ints,yO]
 refine zr mixed (λk:Nat=>{n:=22,next:=2,slots:=[(1,.d (yO rs)),(2,.d (ints (xk inv (rs.take k) w))),(3,.bp 0 0),(9,.d (int rs.length)),(10,.d (int k))],own:=[(0,.box 24 [.d (zI inv)])],moved:=[]})
  (λk=>k<=rs.length) (λk=>rs.length-k) 0 (by simp) (by simp+decide[int,ints,yO,xk]) ?_
 intro k Q
 by_cases H:k<rs.length
 case neg=>
  have:k=rs.length:=by omega
  subst this;rw[List.take_length];simp+decide[int,ints,yO]
 have G:(k:Int)<rs.length:=by omega
 have hsn:xk inv (rs.take (k+1)) w=kC inv rs[k] (xk inv (rs.take k) w):=by unfold xk;rw[yu H,List.foldl_append];rfl
 have E:=ZC inv (rs.take k) w
 have F:=C4 (inv:=inv) (rs.take k) O
 have T:=J rs[k] (List.getElem_mem H)
 obtain⟨r,er⟩:∃ r,rs[k]=r:=⟨_,rfl⟩
 have e1:rs[k]?=some r:=by rw[List.getElem?_eq_getElem H,er]
 rw[er] at hsn T
 generalize xk inv (rs.take k) w=u at hsn E F
 have V:=Po inv K r T u (by omega) F
 simp+decide[int,ints,yO,H,G,er,Rule.row]
 refine scp V ?_
 simp+decide[ints]
 exact⟨⟨by omega,by omega⟩,k+1,H,by omega,by rw[hsn],by simp⟩
structure LangR(g:Lang):Prop extends LangL g where
 rulesL:∀ r∈g.rules,RuleL r
 nz:∀ e∈g.lex,∀ w∈e.forms,u7 w
theorem Pt{g:Lang}(G:LangR g)(ps:List Prt):u7 (zP g.lex ps):=by
 intro x F
 unfold zP at F
 rw[List.mem_flatMap] at F
 obtain⟨p,_,F⟩:=F
 split at F
 .rename_i hf
  unfold qd at F hf;split at F
  .rename_i E
   simp only at F
   obtain⟨c1,c2,c3⟩:=E;have H:p.alt.toNat<(zG g.lex p.entry).1.forms.length:=by omega
   rw[List.getElem?_eq_getElem H,Option.getD_some] at F;exact G.nz _ (Yz c1) _ (List.getElem_mem H) x F
  .cases F
 .cases F
theorem Pu(g:Lang)(E:LangR g)(ps:List Prt)(K:ps.length<2^20):zj Tryz.prog 83 [g.d,zM ps] (.tup [ints (xN g ps).1,int (xN g ps).2]):=by
 have J:=Pm g E.toLangL ps K
 have L:=DV g E.lex ps K
 have H:ql g ps=0->(zP g.lex ps).length<2^40:=by
  intro h;unfold ql at h;repeat' split at h
  all_goals first | omega | skip
 have M:=λh=>Pr g.inv (by have:=E.inv;omega) g.rules E.rulesL E.rules.2 (zP g.lex ps) (H h) (Pt E ps)
 have G:=ZC g.inv g.rules (zP g.lex ps)
 unfold xN
 generalize ql g ps=R at J M H ⊢
 refine zn mixed Tryz.func83 rfl c_83 ?_
 simp+decide[Tryz.f83,int,Lang.d,zM]
 refine zg J ?_
 by_cases O:R=0
 .subst O
  have M:=M rfl;have H:=H rfl;generalize xk g.inv g.rules (zP g.lex ps)=v at M G ⊢;simp+decide[int];refine scp L ?_
  simp+decide[ints];refine scp M ?_
  by_cases Q:v.length=0
  .simp+decide[ints,List.length_eq_zero_iff.mp Q]
  .have F:v≠[]:=λh=>Q (by rw[h];rfl)
   simp+decide[ints,Q,F]
 .simp+decide[int,ints,O]
theorem KX(a b:List Int)(L:a.length<2^62)(M:b.length<2^62):zj Tryz.prog 84 [ints a,ints b] (.bool (decide (a=b))):=by
 refine zn mixed Tryz.func84 rfl c_84 ?_
 by_cases O:a.length=b.length
 case neg=>
  have:¬a=b:=λh=>O (by rw[h])
  have J:¬(a.length:Int)=b.length:=by omega
  simp+decide[Tryz.f84,ints,J,this]
 have J:(a.length:Int)=b.length:=by omega
 simp+decide[Tryz.f84,ints,O]
 refine zr mixed (λk:Nat=>{n:=26,next:=0,slots:=[(0,.d (ints a)),(1,.d (ints b)),(12,.d (int b.length)),(13,.d (int k))],own:=[],moved:=[]})
  (λk=>k<=a.length/\a.take k=b.take k) (λk=>a.length-k) 0 (by simp) (by simp+decide[int,ints]) ?_
 intro k ⟨Q,T⟩
 by_cases H:k<a.length
 case neg=>
  have:k=a.length:=by omega
  subst this;rw[List.take_length,O,List.take_length] at T;subst T;simp+decide[int,ints]
 have G:(k:Int)<a.length:=by omega
 have E:k<b.length:=by omega
 have F:(k:Int)<b.length:=by omega
 obtain⟨x,ex⟩:∃ x,a[k]=x:=⟨_,rfl⟩
 obtain⟨y,ey⟩:∃ y,b[k]=y:=⟨_,rfl⟩
 have ex1:a[k]?=some x:=by rw[List.getElem?_eq_getElem H,ex]
 have ey1:b[k]?=some y:=by rw[List.getElem?_eq_getElem E,ey]
 by_cases K:x=y
 .subst K
  simp+decide[int,ints,H,G,E,F,ex,ey];exact⟨⟨by omega,by omega⟩,k+1,⟨H,by rw[yu H,yu E,T,ex,ey]⟩,by omega,by omega⟩
 .have:¬a=b:=by
   intro h;subst h;exact K (by rw[<-ex,<-ey])
  simp+decide[int,ints,H,G,E,F,ex,ey,K,this]
def jq(g:Lang)(w:List Int)(ps:List Prt):Bool:=decide ((xN g ps).2=0/\(xN g ps).1=w)
theorem Pv{g:Lang}(ps:List Prt):(xN g ps).1.length<=(zP g.lex ps).length:=by
 unfold xN
 have:=ZC g.inv g.rules (zP g.lex ps)
 repeat' split
 all_goals simp;try omega
theorem Pw(g:Lang)(H:LangR g)(w:List Int)(G:w.length<2^40)(ps:List Prt)(F:ps.length<2^20):zj Tryz.prog 35 [g.d,ints w,zM ps] (.bool (jq g w ps)):=by
 have E:=Pu g H ps F
 have K:=Pv (g:=g) ps
 have J:=YA H.lex ps
 have L:=KX (xN g ps).1 w (by omega) (by omega)
 unfold jq
 generalize xN g ps=q at E L ⊢
 obtain⟨v,e⟩:=q
 refine zn mixed Tryz.func35 rfl c_35 ?_
 simp+decide[Tryz.f35,int,Lang.d,zM]
 refine zg E ?_
 by_cases M:e=0
 .subst M
  simp+decide[int,ints];refine zg L ?_
  simp+decide
 .simp+decide[int,ints,M]
end Go.V
namespace Go.V
open Go Go.Proofs Go.RowKit Go.WideShapes
mutual
def Cap(M:Nat):D->Prop
 |.str b=>b.size<=M
 |.sl l=>l.length<=M/\gK M l
 |_=>True
def gK(M:Nat):List (List D)->Prop
 | []=>True
 |r::rs=>Caps M r/\gK M rs
def Caps(M:Nat):List D->Prop
 | []=>True
 |d::ds=>Cap M d/\Caps M ds
end
def j4(M:Nat):D->Prop
 |.agg l=>Caps M l
 |d=>Cap M d
theorem Px{M:Nat}{d:D}(h:Cap M d):(∀ l,d≠.agg l)->j4 M d:=by
 intro H
 cases d <;> first | exact h | exact absurd rfl (H _)
theorem Caps.app{M:Nat}:∀ {a b:List D},Caps M a->Caps M b->Caps M (a++b)
 | [],b,_,h=>h
 |d::a,b,h,H=>by
  simp only[Caps,List.cons_append] at h ⊢;exact⟨h.1,Caps.app h.2 H⟩
theorem C5{M:Nat}:∀ {l:List (List D)},(∀ i (h:i<l.length),Caps M l[i])->gK M l
 | [],_=>by simp[gK]
 |r::rs,h=>by
  simp only[gK];exact⟨h 0 (by simp),C5 λi hi=>h (i+1) (by simp;omega)⟩
structure BulkFn{H:Type}(bulk:DataW H->Nat):Prop where
 str:∀ bytes,bytes.length<=bulk (.lit (.string bytes))
 sl:∀ es rest,es.length<=bulk (.slice es rest)
 el:∀ es rest e,e∈es->bulk e<=bulk (.slice es rest)
 part:∀ ps p,p∈ps->bulk p<=bulk (.agg ps)
section
variable {H:Type} {enc:TypeId×Value->H} {P:Program} {w:World} {base:Nat} {spare:Nat->Bool} {held:Bool} {bulk:DataW H->Nat}
theorem C6{g:Nat->Option (List Sh)}{m:Nat}{cs:List Value}{M:Nat}
  (Q:∀ (f:Field) (l:List Sh),g f.type=some l->∀ x,DataW.trod enc P w base spare held m f.type ((cs.drop f.offset).take (P.cellsOf f.type))=some x->bulk x.1<=M->∃ ds,y5 ds l/\Caps M ds/\zi w Ez ds ((cs.drop f.offset).take (P.cellsOf f.type))) :
  ∀ (fs:List Field) (off:Nat) (shs:List Sh),Qa g P fs off=some shs->off+shs.length=cs.length ->
   (∀ f∈fs,∃ x,DataW.trod enc P w base spare held m f.type ((cs.drop f.offset).take (P.cellsOf f.type))=some x/\bulk x.1<=M)->∃ ds,y5 ds shs/\Caps M ds/\zi w Ez ds (cs.drop off)
 | [],off,shs,h,T,_=>by
  simp only[Qa,Option.some.injEq] at h;subst h;simp at T
  exact⟨[],by simp[y5],by simp[Caps],by simp[zi,List.drop_eq_nil_of_le,T]⟩
 |f::r,off,shs,h,T,V=>by
  simp only[Qa] at h;split at h
  .rename_i ho
   split at h
   .rename_i l E
    split at h
    .rename_i hlen
     split at h
     .rename_i m' X
      cases h;obtain⟨x,Y,K⟩:=V f (by simp)
      obtain⟨ds,J,L,O⟩:=Q f l E x Y K;obtain⟨ds',H,G,F⟩:=C6 Q r (off+l.length) m' X (by simp at T;omega) λf' hf'=>V f' (by simp[hf'])
      refine⟨ds++ds',J.app H,L.app G,?_⟩
      have e:cs.drop off=(cs.drop off).take (P.cellsOf f.type)++cs.drop (off+l.length):=by
       rw[hlen,<-List.drop_drop,List.take_append_drop]
      rw[e];subst ho;exact O.app F
     .cases h
    .cases h
   .cases h
  .cases h
theorem KY(S:BulkFn bulk){M:Nat}:∀ (fuel n t:Nat) (shs:List Sh) (cs:List Value) (x:DataW H×List MemPlace),shapes P n t=some shs->DataW.trod enc P w base spare held fuel t cs=some x->bulk x.1<=M ->
  ∃ ds,y5 ds shs/\Caps M ds/\zi w Ez ds cs
 |0,_,_,_,_,_,_,h,_=>by simp[DataW.trod] at h
 |fuel+1,n,t,shs,cs,x,hs,h,W=>by
  cases n with
  |zero=>simp[shapes] at hs
  |succ n=>
  simp only[shapes] at hs;split at hs
  .rename_i k ht
   cases hs;obtain⟨m,rfl,_,hw⟩:=DataW.trod_int ht h;exact⟨[.int k m],by simp[y5,yI,hw],by simp[Caps,Cap],by simp only[zi,R];exact⟨_,_,rfl,rfl,rfl,rfl⟩⟩
  .rename_i ht
   cases hs;obtain⟨b,rfl,_⟩:=DataW.trod_bool ht h;exact⟨[.bool b],by simp[y5,yI],by simp[Caps,Cap],by simp only[zi,R];exact⟨_,_,rfl,rfl,rfl,rfl⟩⟩
  .rename_i ht
   cases hs;obtain⟨s,rfl,rfl,hw⟩:=DataW.trod_string ht h;have Q:=S.str s.data.toList;have e0:s.data.toList.length=s.size:=by rw[Array.length_toList];rfl
   exact⟨[.str s],by simp[y5,yI,hw],by simp only[Caps,Cap,and_true];simp only at W;omega,by simp only[zi,R];exact⟨_,_,rfl,rfl,rfl,rfl⟩⟩
  .rename_i e ht
   split at hs
   .rename_i l hl
    split at hs
    .rename_i hlen
     cases hs;rcases DataW.trod_slice ht h with⟨rfl,_⟩ | ⟨a,len,cap,elems,rest,m,hm,rfl,rfl,_,C,Y,I,K,_⟩
     .exact⟨[.sl []],by simp[y5,yI,kp],by simp[Caps,Cap,gK],by simp only[zi,R];exact⟨_,_,rfl,rfl,⟨none,0,rfl,by simp,by simp,λ_=>rfl,λh=>absurd rfl h⟩,rfl⟩⟩
     .cases hm
      have cellf:∀ i,i<len->∃ cs' x',w.cells? base (a.add (i*P.cellsOf e)) (P.cellsOf e)=some cs'/\DataW.trod enc P w base spare held fuel e cs'=some x'/\bulk x'.1<=M:=by
       intro i hi;have h1:=K i hi;have h2:elems[i]?=some (elems[i]'(by omega)):=List.getElem?_eq_getElem (by omega)
       rw[h2,Option.bind_eq_some_iff] at h1;obtain⟨cs',J,L⟩:=h1;exact⟨cs',_,J,L,Nat.le_trans (S.el _ _ _ (List.mem_map.mpr ⟨_,List.getElem_mem _,rfl⟩)) W⟩
      have E:0<len->a.spot=none/\a.block<w.heap.size:=by
       intro hp;obtain⟨cs',_,J,_,_⟩:=cellf 0 hp;obtain⟨_,T,G⟩:=World.cells?_some J;have c0:=G 0 (by omega)
       have:cs'[0]?=some (cs'[0]'(by omega)):=List.getElem?_eq_getElem (by omega)
       rw[this] at c0;exact⟨by simpa[Addr.add] using World.cell?_spot c0,by simpa[Addr.add] using cell_lt c0⟩
      have each:∀ i,i<len->∃ ds,(y5 ds l/\Caps M ds)/\y0 w Ez a.block ds (a.off+i*P.cellsOf e):=by
       intro i hi;obtain⟨q3,q4⟩:=E (by omega)
       obtain⟨cs',x',J,L,O⟩:=cellf i hi;obtain⟨ds,hf,Z,hr⟩:=KY S fuel n e l cs' _ hl L O;obtain⟨_,T,G⟩:=World.cells?_some J;refine⟨ds,⟨hf,Z⟩,Dl hr λj hj=>?_⟩
       have:=G j (by rw[hr.len] at hj;omega)
       rw[<-this];obtain⟨ab,ao,asp⟩:=a;subst q3;rw[add_plain,add_plain]
      obtain⟨rows,V,F⟩:=Do len each;have A:=S.sl (elems.map (·.1)) (rest.map (·.1));rw[List.length_map] at A;refine⟨[.sl rows],by simp[y5,yI,V,Dn λi hi=>(F i hi).1.1];omega,by simp only[Caps,Cap,and_true];exact⟨by simp only at W;omega,C5 λi hi=>(F i hi).1.2⟩,?_⟩
      simp only[zi,R];refine⟨_,_,rfl,rfl,⟨some a,cap,by rw[V],by omega,Y,λh=>by simp at h,λX=>?_⟩,rfl⟩
      have h0:0<rows.length:=List.length_pos_iff.2 X
      obtain⟨q1,q2⟩:=F 0 h0;obtain⟨q3,q4⟩:=E (by omega)
      have Q:rowLen rows=P.cellsOf e:=by
       cases hr:rows with
       |nil=>exact absurd hr X
       |cons r rs => 
        subst hr;simp only[rowLen];have:=q1.1.len
        simp at this
        omega
      refine⟨a.block,a.off,?_,λh=>h,q4,?_⟩
      .obtain⟨ab,ao,asp⟩:=a
       subst q3;rfl
      .rw[Q]
       exact Dm λi hi=>⟨by rw[(F i hi).1.1.len];exact hlen.1,(F i hi).2⟩
    .cases hs
   .cases hs
  .rename_i fs ht
   split at hs
   .rename_i l hl
    split at hs
    .rename_i hlen
     cases hs;obtain⟨xs,m,hm,B,T,N,hx⟩:=DataW.trod_struct ht h;cases hm;have:=C6 (bulk:=bulk) (M:=M) (g:=shapes P n) (m:=fuel) (cs:=cs) (P:=P) (w:=w) (enc:=enc) (base:=base) (spare:=spare) (held:=held) (λf l' hf x hx O=>KY S fuel n f.type l' _ x hf hx O) fs.toList 0 shs hl (by omega) ?_
     .simpa using this
     .intro f hf
      obtain⟨i,hi,rfl⟩:=List.getElem_of_mem hf;have h1:=hx i fs[i] (by simp at hi;simp[hi])
      rw[List.getElem?_eq_getElem (by simp at hi;omega)] at h1
      refine⟨_,by simpa using h1,Nat.le_trans (S.part _ _ (List.mem_map.mpr ⟨_,List.getElem_mem _,rfl⟩)) (by rw[B] at W;exact W)⟩
    .cases hs
   .cases hs
  .cases hs
theorem Py(K:BulkFn bulk){M:Nat}{n t:Nat}{v:Value}{d:DataW H}{ps:List MemPlace}{r:Reach}{b0:Nat}(hs:(shapes P n t).isSome=true)(J:Value.okWide P w r b0 t v)(h:DataW.Trod enc P w base spare held t v d ps)(L:bulk d<=M):
  ∃ x,J0 P n t x/\j4 M x/\R w Ez x v:=by
 obtain⟨fuel,O⟩:=h
 cases Q:shapes P n t with
 |none=>simp[Q] at hs
 |some shs=>
 obtain⟨ds,T,V,X⟩:=KY K fuel n t shs _ _ Q O L
 unfold J0
 cases n with
 |zero=>simp[shapes] at Q
 |succ n=>
 have G:=Q
 simp only[shapes] at Q
 have scalar:∀ s,shs=[s]->v.cells = #[v]->∃ x,(yI x s/\j4 M x)/\R w Ez x v:=by
  intro s e E;subst e;rw[E] at X;cases ds with
  |nil=>simp[y5] at T
  |cons d ds=>
   simp only[zi] at X;obtain⟨u,us,e,_,Y,_⟩:=X;simp only[y5] at T;obtain⟨s',r',e',F,_⟩:=T;cases e'
   simp at e
   obtain⟨rfl,rfl⟩:=e;simp only[Caps] at V;exact⟨d,⟨F,Px V.1 (by intro l e;subst e;simp[yI] at F)⟩,Y⟩
 split at Q
 .rename_i k Z
  cases Q;obtain⟨m,rfl⟩:=okWide_int Z J;obtain⟨x,A⟩:=scalar _ rfl rfl;exact⟨x,by rw[Z];exact⟨_,G,A.1.1⟩,A.1.2,A.2⟩
 .rename_i Z
  cases Q;obtain⟨m,rfl⟩:=okWide_bool Z J;obtain⟨x,A⟩:=scalar _ rfl rfl;exact⟨x,by rw[Z];exact⟨_,G,A.1.1⟩,A.1.2,A.2⟩
 .rename_i Z
  cases Q;obtain⟨m,rfl⟩:=okWide_string Z J;obtain⟨x,A⟩:=scalar _ rfl rfl;exact⟨x,by rw[Z];exact⟨_,G,A.1.1⟩,A.1.2,A.2⟩
 .rename_i e Z
  split at Q
  .split at Q
   .cases Q
    obtain⟨a,len,cap,rfl⟩:=okWide_slice Z J;obtain⟨x,A⟩:=scalar _ rfl rfl;exact⟨x,by rw[Z];exact⟨_,G,A.1.1⟩,A.1.2,A.2⟩
   .cases Q
  .cases Q
 .rename_i fs Z
  obtain⟨cs,rfl,_⟩:=okWide_struct Z J;refine⟨.agg ds,by rw[Z];exact⟨ds,shs,rfl,G,T⟩,by simp only[j4];exact V,?_⟩
  simp only[R];exact⟨cs.toList,by simp,X⟩
 .cases Q
theorem C7(O:BulkFn bulk){M:Nat}{n:Nat}{r:Reach}{b0:Nat}:∀ {ts:List Nat} {vs:List Value} {ds:List (DataW H)} {ps:List MemPlace},(∀ t∈ts,(shapes P n t).isSome=true) ->
  (∀ (j:Nat) (t:Nat) (v:Value),ts[j]?=some t->vs[j]?=some v->Value.okWide P w r b0 t v)->DataW.TrodAll enc P w base spare held ts vs ds ps->(∀ d∈ds,bulk d<=M)->∃ xs,Yx P n ts xs/\(∀ x∈xs,j4 M x)/\zH w Ez xs vs
 | [],vs,ds,ps,_,_,h,_=>by
  cases vs with
  |nil=>exact⟨[],by simp[Yx],by simp,by simp[zH]⟩
  |cons v vs=>cases ds <;> simp[DataW.TrodAll] at h
 |t::ts,vs,ds,ps,hs,Q,h,T=>by
  cases vs with
  |nil=>cases ds <;> simp[DataW.TrodAll] at h
  |cons v vs=>
   cases ds with
   |nil=>simp[DataW.TrodAll] at h
   |cons d ds=>
    simp only[DataW.TrodAll] at h;obtain⟨p,q,V,X,_⟩:=h;obtain⟨x,G,F,E⟩:=Py O (hs t (by simp)) (Q 0 t v rfl rfl) V (T d (by simp))
    obtain⟨xs,K,J,L⟩:=C7 O (ts:=ts) (λt Y=>hs t (by simp[Y])) (λj t v h Z=>Q (j+1) t v (by simpa using h) (by simpa using Z)) X (λd A=>T d (by simp[A]))
    exact⟨x::xs,by simp only[Yx];exact⟨x,xs,rfl,G,K⟩,by intro z B;rcases List.mem_cons.mp B with e | e;rw[e];exact F;exact J z e,by simp only[zH];exact⟨v,vs,rfl,E,L⟩⟩
end
end Go.V
namespace Go.V
open Go Go.Proofs Go.Lib
def zD(s:ByteArray)(k:Nat):Nat:=(s.data.toList.getD k 0).toNat
theorem gP(s:ByteArray)(k:Nat):byteAt s (k:Int)=(zD s k:Int):=by simp[byteAt,zD]
theorem wrap_u8(n:Int):IntKind.wrap .u8 n=n%256:=by
 simp[IntKind.wrap,IntKind.bits,IntKind.signed]
theorem ua{n:Int}{m:Nat}(h:n=(m:Int)):UInt8.ofNat (IntKind.wrap .u8 n).toNat=UInt8.ofNat m:=by
 subst h
 apply UInt8.toNat_inj.1
 rw[wrap_u8]
 simp only[UInt8.toNat_ofNat']
 omega
theorem wrap_i64{n:Int}(h:I64 n):IntKind.wrap .i64 n=n:=by
 obtain⟨H,G⟩:=h
 simp[IntKind.wrap,IntKind.bits,IntKind.signed]
 split <;> omega
theorem C9(s:ByteArray)(k:Nat):IntKind.wrap .i64 (zD s k:Int)=(zD s k:Int):=by
 have:zD s k<256:=UInt8.toNat_lt _
 exact wrap_i64 ⟨by omega,by omega⟩
theorem Pz(p:Nat):zj Tryz.prog 257 [int p] (.bool (decide (k9 p))):=by
 refine zn mixed Tryz.func257 rfl c_257 ?_
 by_cases H:(p:Int)<=1114111
 .by_cases G:(p:Int)<55296
  .have:k9 p:=⟨by omega,by omega⟩
   simp+decide[Tryz.f257,int,H,G,this]
  .have F:k9 p↔(57343:Int)<p:=⟨λh=>by have:=h.2;omega,λh=>⟨by omega,by omega⟩⟩
   simp+decide[Tryz.f257,int,H,G,F]
 .have:¬k9 p:=λh=>H (by have:=h.1;omega)
  simp+decide[Tryz.f257,int,H,this]
def encS(p:Nat):ByteArray:=⟨((encR p).map UInt8.ofNat).toArray⟩
theorem PD(p:Nat)(E:p<2^40):zj Tryz.prog 258 [int p] (.str (encS p)):=by
 refine zn mixed Tryz.func258 rfl c_258 ?_
 have t1:(p:Int).tmod 64=((p%64:Nat):Int):=rfl
 have t2:((p:Int)/64).tmod 64=((p/64%64:Nat):Int):=by rw[show(p:Int)/64=((p/64:Nat):Int) by omega];rfl
 have t3:((p:Int)/4096).tmod 64=((p/4096%64:Nat):Int):=by rw[show(p:Int)/4096=((p/4096:Nat):Int) by omega];rfl
 by_cases K:p<128
 .have H:(p:Int)<128:=by omega
  simp+decide[Tryz.f258,int,H,jD,bytesOf];rw[ua (m:=p) (by omega)]
  simp[encS,encR,K]
 have H:¬(p:Int)<128:=by omega
 by_cases J:p<2048
 .have G:(p:Int)<2048:=by omega
  simp+decide[Tryz.f258,int,H,G,t1,jD,bytesOf,I64];rw[ua (m:=192+p/64) (by omega),ua (m:=128+p%64) (by omega)]
  refine⟨by omega,by omega,by omega,?_⟩
  simp[encS,encR,K,J]
 have G:¬(p:Int)<2048:=by omega
 by_cases L:p<65536
 .have F:(p:Int)<65536:=by omega
  simp+decide[Tryz.f258,int,H,G,F,t1,t2,jD,bytesOf,I64];rw[ua (m:=224+p/4096) (by omega),ua (m:=128+p/64%64) (by omega),ua (m:=128+p%64) (by omega)]
  refine⟨by omega,by omega,by omega,by omega,by omega,?_⟩
  simp[encS,encR,K,J,L]
 have F:¬(p:Int)<65536:=by omega
 simp+decide[Tryz.f258,int,H,G,F,t1,t2,t3,jD,bytesOf,I64]
 rw[ua (m:=240+p/262144) (by omega),ua (m:=128+p/4096%64) (by omega),ua (m:=128+p/64%64) (by omega),ua (m:=128+p%64) (by omega)]
 refine⟨by omega,by omega,by omega,by omega,by omega,by omega,by omega,?_⟩
 simp[encS,encR,K,J,L]
theorem bytes_inj{a b:ByteArray}(h:a.toList=b.toList):a=b:=by
 rw[<-MapKept.bytes_beq,beq_toListBytes,beq_iff_eq];exact h
def wn(s:ByteArray)(at_ p0:Nat):Nat->Nat
 |0=>p0
 |k+1=>wn s at_ p0 k*64+zD s (at_+(k+1))%64
theorem Ca{s:ByteArray}{at_ p0:Nat}(h:p0<256):∀ k,wn s at_ p0 k<256*64^k
 |0=>by simpa[wn] using h
 |k+1=>by
  have:=Ca (s:=s) (at_:=at_) h k
  simp only[wn,Nat.pow_succ];omega
def bytes4(s:ByteArray)(at_:Nat):List Nat:=[zD s at_,zD s (at_+1),zD s (at_+2),zD s (at_+3)]
theorem PE(s:ByteArray)(at_ p0:Nat):∀ n,n<=4->Zj p0 ([zD s (at_+1),zD s (at_+2),zD s (at_+3)].take (n-1))=wn s at_ p0 (n-1)
 |0,_=>rfl
 |1,_=>rfl
 |2,_=>rfl
 |3,_=>rfl
 |4,_=>rfl
theorem Cb:∀ {a b:List UInt8},a.map UInt8.toNat=b.map UInt8.toNat->a=b
 | [],[],_=>rfl
 | [],_::_,h=>by simp at h
 |_::_,[],h=>by simp at h
 |x::a,y::b,h=>by
  simp only[List.map_cons,List.cons.injEq] at h;rw[UInt8.toNat_inj.1 h.1,Cb h.2]
theorem PG{s:ByteArray}{at_ n:Nat}(F:n<=4)(h:at_+n<=s.size):(s.extract at_ (at_+n)).data.toList.map UInt8.toNat=(bytes4 s at_).take n:=by
 have G:s.size=s.data.toList.length:=by rw[Array.length_toList];rfl
 have E:(s.extract at_ (at_+n)).data.toList=(s.data.toList.drop at_).take n:=by
  simp only[ByteArray.data_extract,Array.toList_extract,List.extract_eq_take_drop];congr 1;omega
 rw[E]
 apply List.ext_getElem?
 intro j
 rw[List.getElem?_map,List.getElem?_take,List.getElem?_take]
 by_cases hj:j<n
 .rw[if_pos hj,if_pos hj,List.getElem?_drop,List.getElem?_eq_getElem (by omega)]
  have K:∀ k,(J:k<s.data.toList.length)->(s.data.toList[k]'J).toNat=zD s k:=λk J=>by simp[zD,List.getD,List.getElem?_eq_getElem J]
  have H:j=0\/j=1\/j=2\/j=3:=by omega
  rw[Option.map_some,K];rcases H with rfl | rfl | rfl | rfl <;> rfl
 .rw[if_neg hj,if_neg hj];rfl
theorem PH(p:Nat):(encS p).data.toList.map UInt8.toNat=(encR p).map (· % 256):=by
 simp only[encS,List.map_map]
 apply List.map_congr_left
 intro b _
 simp
theorem PI{s:ByteArray}{at_ n p:Nat}(H:n<=4)(h:at_+n<=s.size):encS p=s.extract at_ (at_+n)↔(encR p).map (· % 256)=(bytes4 s at_).take n:=by
 rw[<-PH,<-PG H h]
 constructor
 .intro e;rw[e]
 .intro e
  have:=Cb e
  have e2:(encS p).data=(s.extract at_ (at_+n)).data:=Array.ext' this
  cases G:encS p;cases F:s.extract at_ (at_+n)
  rw[G,F] at e2;simp only at e2;rw[e2]
def ub(s:ByteArray)(at_:Nat):Option (Nat×Nat):=Y6 (s.size-at_) (zD s at_) (zD s (at_+1)) (zD s (at_+2)) (zD s (at_+3))
def ZD:Option (Nat×Nat)->D
 |none=>.tup [int (-1),int 0]
 |some r=>.tup [int r.1,int r.2]
theorem PK{s:ByteArray}{at_ p0 n:Nat}(H:qT (zD s at_)=(p0,n))(G:n<=4):ub s at_=if s.size-at_<n then none else if k9 (wn s at_ p0 (n-1))/\(encR (wn s at_ p0 (n-1))).map (· % 256)=(bytes4 s at_).take n then some (wn s at_ p0 (n-1),n) else none:=by
 unfold ub Y6
 rw[H]
 simp only
 rw[PE s at_ p0 n G]
 rfl
theorem PL(s:ByteArray)(at_:Nat)(H:at_<s.size)(hs:s.size<=1048576):zj Tryz.prog 226 [.str s,int at_] (ZD (ub s at_)):=by
 refine FT Tryz.func226 rfl c_226 ?_
 have Q:zD s at_<256:=UInt8.toNat_lt _
 have e0:=gP s at_
 have w0:=C9 s at_
 obtain⟨⟨p0,n⟩,T⟩:∃ r,qT (zD s at_)=r:=⟨_,rfl⟩
 have G:p0<256/\1<=n/\n<=4:=by
  unfold qT at T;split at T
  .cases T;omega
  .split at T
   .cases T;omega
   .split at T <;> cases T <;> omega
 refine jI mixed 4 {n:=65,next:=0,slots:=[(0,.d (.str s)),(1,.d (int at_)),(6,.d (int p0)),(7,.d (int n))],own:=[]} rfl ?_ ?_
 .unfold qT at T
  have q4:(240:Int)<=zD s at_↔240<=zD s at_:=by omega
  have q3:(224:Int)<=zD s at_↔224<=zD s at_:=by omega
  have q2:(192:Int)<=zD s at_↔192<=zD s at_:=by omega
  by_cases c4:240<=zD s at_
  .rw[if_pos c4] at T
   cases T;have ep:(zD s at_:Int)-240=((zD s at_-240:Nat):Int):=by omega
   simp+decide[Tryz.f226,yn,int,H,e0,w0,q4,c4,I64,jD,ep];omega
  rw[if_neg c4] at T;by_cases c3:224<=zD s at_
  .rw[if_pos c3] at T
   cases T;have ep:(zD s at_:Int)-224=((zD s at_-224:Nat):Int):=by omega
   simp+decide[Tryz.f226,yn,int,H,e0,w0,q4,c4,q3,c3,I64,jD,ep];omega
  rw[if_neg c3] at T;by_cases c2:192<=zD s at_
  .rw[if_pos c2] at T
   cases T;have ep:(zD s at_:Int)-192=((zD s at_-192:Nat):Int):=by omega
   simp+decide[Tryz.f226,yn,int,H,e0,w0,q4,c4,q3,c3,q2,c2,I64,jD,ep];omega
  .rw[if_neg c2] at T
   cases T;simp+decide[Tryz.f226,yn,int,H,e0,w0,q4,c4,q3,c3,q2,c2,I64,jD]
 simp only[yL]
 rw[PK T G.2.2]
 refine zL mixed ?_
 by_cases E:s.size-at_<n
 .have g1:(s.size:Int)<(at_:Int)+n:=by omega
  rw[if_pos E];simp+decide[int,g1,I64,ZD];omega
 have g1:¬(s.size:Int)<(at_:Int)+n:=by omega
 rw[if_neg E]
 simp+decide[int,g1,I64]
 refine⟨by omega,?_⟩
 refine zr mixed (λj:Nat=>{n:=65,next:=0,slots:=[(0,.d (.str s)),(1,.d (int at_)),(6,.d (int (wn s at_ p0 j))),(7,.d (int n)),(8,.d (int (j+1)))],own:=[]})
  (λj=>j+1<=n) (λj=>n-j) 0 G.2.1 (by simp+decide[int,wn]) ?_
 intro j hj
 have J:=Ca (s:=s) (at_:=at_) G.1 j
 have F:wn s at_ p0 j<2^30:=Nat.lt_of_lt_of_le J (Nat.le_trans (Nat.mul_le_mul_left _ (Nat.pow_le_pow_right (by omega) (show j<=3 by omega))) (by decide))
 by_cases O:j+1<n
 .have k1:(j:Int)+1<n:=by omega
  have e1:byteAt s ((at_:Int)+((j:Int)+1))=(zD s (at_+(j+1)):Int):=gP s (at_+(j+1))
  have w1:=C9 s (at_+(j+1));have t1:(zD s (at_+(j+1)):Int).tmod 64=((zD s (at_+(j+1))%64:Nat):Int):=rfl
  simp+decide[int,k1,e1,w1,t1,I64,jD];exact⟨by omega,by omega,⟨by omega,by omega⟩,by omega,by omega,j+1,by omega,by omega,by simp only[wn];omega,by omega⟩
 .obtain rfl:n=j+1:=by omega
  rw[Nat.add_sub_cancel];simp+decide[int];generalize wn s at_ p0 j=q at F ⊢;refine scp (Pz q) ?_
  by_cases K:k9 q
  case neg=>simp+decide[K,int,ZD]
  simp+decide[K];refine scp (PD q (by omega)) ?_
  have z1:((at_:Int)+((j:Int)+1)).toNat=at_+(j+1):=by omega
  have V:=PI (s:=s) (at_:=at_) (n:=j+1) (p:=q) (by omega) (by omega)
  by_cases X:encS q=s.extract at_ (at_+(j+1))
  .simp+decide[int,z1,X,V.1 X,ZD,I64]
   omega
  .have L:¬((encR q).map (· % 256)=(bytes4 s at_).take (j+1)):=λh=>X (V.2 h)
   have M:¬(encS q).toList=(s.extract at_ (at_+(j+1))).toList:=λh=>X (bytes_inj h)
   simp+decide[int,z1,L,M,ZD,I64];omega
def xP(s:ByteArray):Nat->Nat->Option (List Int)
 |0,_=>some []
 |n+1,pos=>if pos<s.size then (match ub s pos with
  |none=>none
  |some r=>(xP s n (pos+r.2)).map ((r.1:Int) :: ·)) else some []
theorem Jb{s:ByteArray}{pos:Nat}(h:pos<s.size):match ub s pos with
  |none=>decodeN (s.size-pos) (zD s pos) (zD s (pos+1)) (zD s (pos+2)) (zD s (pos+3))=(65533,1)
  |some r=>decodeN (s.size-pos) (zD s pos) (zD s (pos+1)) (zD s (pos+2)) (zD s (pos+3))=r/\¬(r.1=65533/\r.2=1)/\r.2<=s.size-pos/\1<=r.2:=
 za7 _ _ _ _ _ (by omega) (UInt8.toNat_lt _) (UInt8.toNat_lt _) (UInt8.toNat_lt _) (UInt8.toNat_lt _)
def wo:Option (List Int)->D
 |none=>.tup [.sl [],.bool false]
 |some l=>.tup [ints l,.bool true]
def Qf(s:ByteArray)(x:List Int×Nat×Nat):St:=
 {n:=28,next:=2,slots:=[(0,.d (.str s)),(4,.ar 1),(5,.d (int x.2.1))],own:=[(1,.arr 3 1 (x.1.map λn=>[.int .i64 n]))],moved:=[1]}
theorem KZ(s:ByteArray):∀ (m pos:Nat) (l:List Int),xP s m pos=some l->l.length<=m
 |0,pos,l,h=>by simp[xP] at h;subst h;simp
 |m+1,pos,l,h=>by
  simp only[xP] at h;split at h
  .split at h
   .cases h
   .rw[Option.map_eq_some_iff] at h
    obtain⟨l',H,rfl⟩:=h;have:=KZ s m _ l' H
    simp;omega
  .cases h;simp
theorem Jc(s:ByteArray)(hs:s.size<=1048576):zj Tryz.prog 192 [.str s] (wo (xP s s.size 0)):=by
 refine Zs mixed Tryz.func192 rfl c_192 [1,2] ?_
 simp+decide[Tryz.f192]
 refine zr mixed (Qf s) (λx=>x.2.1<=s.size/\s.size<=x.2.1+x.2.2/\x.1.length<=x.2.1/\xP s s.size 0=(xP s x.2.2 x.2.1).map (x.1 ++ ·)) (λx=>x.2.2) ([],0,s.size)
  ⟨by simp,by simp,by simp,by simp⟩ (by simp+decide[Qf,int]) ?_
 rintro⟨acc,pos,m⟩ ⟨E,K,J,L⟩
 simp only at E K J L
 by_cases G:pos<s.size
 .have H:(pos:Int)<s.size:=by omega
  obtain⟨m,rfl⟩:∃ k,m=k+1:=⟨m-1,by omega⟩
  simp only[xP,if_pos G] at L;have M:=Jb G;have F:=PL s pos G hs;simp+decide[Qf,int,H];refine zg F ?_
  cases O:ub s pos with
  |none=>
   rw[O] at L;simp+decide[ZD,int,wo,L]
  |some r=>
   rw[O] at L M;simp only at L M
   obtain⟨_,_,g3,g4⟩:=M;have e1:¬r.2=0:=by omega
   simp+decide[ZD,int,e1,I64];refine⟨by omega,by unfold maxLen;omega,⟨by omega,by omega⟩,acc++[(r.1:Int)],pos+r.2,m,⟨by omega,by omega,by simp;omega,by rw[L];cases xP s m (pos+r.2) <;> simp⟩,by omega,?_⟩
   simp+decide[Qf,int]
 .have H:¬(pos:Int)<s.size:=by omega
  have Q:xP s m pos=some []:=by cases m <;> simp[xP,G]
  rw[Q] at L;simp+decide[Qf,int,H,L,wo,ints]
end Go.V
namespace Go.V
open Go Go.Proofs
def Jd(r:D):Prop:=∃ b,r = .bool b
def Je(r:D):Prop:=∃ e,r=int e
@[simp] theorem zlq(b:Bool):Jd (.bool b):=⟨b,rfl⟩
@[simp] theorem zlr(n:Int):Je (.int .i64 n):=⟨n,rfl⟩
theorem Cc(s:ByteArray)(hs:s.size<=1048576):xU Tryz.prog 142 [.str s] Jd:=by
 refine qV mixed Tryz.func142 rfl c_142 ?_
 simp+decide[Tryz.f142]
 refine zr mixed (λk:Nat=>{n:=38,next:=0,slots:=[(0,.d (.str s)),(3,.d (int k))],own:=[]})
  (λk=>k<=s.size) (λk=>s.size-k) 0 (by simp) (by simp+decide[int]) ?_
 intro k F
 by_cases G:k<s.size
 .have H:(k:Int)<s.size:=by omega
  have e1:byteAt s (k:Int)=(zD s k:Int):=gP s k
  by_cases b1:(zD s k:Int)<32
  .simp+decide[int,H,e1,b1]
  .by_cases b2:(zD s k:Int)=127
   .simp+decide[int,H,e1,b2]
   .simp+decide[int,H,e1,b1,b2,I64]
    exact⟨⟨by omega,by omega⟩,k+1,G,by omega,by omega⟩
 .have H:¬(k:Int)<s.size:=by omega
  simp+decide[int,H];refine zg (Jc s hs) ?_
  cases E:xP s s.size 0 with
  |none=>simp+decide[wo]
  |some l=>
   by_cases c1:(1:Int)<=s.size
   .simp+decide[wo,ints,c1]
   .simp+decide[wo,ints,c1]
theorem PN(s:ByteArray)(hs:s.size<=1048576):xU Tryz.prog 145 [.str s] Jd:=by
 refine qV mixed Tryz.func145 rfl c_145 ?_
 simp+decide[Tryz.f145]
 refine zr mixed (λk:Nat=>{n:=16,next:=0,slots:=[(0,.d (.str s)),(3,.d (int k))],own:=[]})
  (λk=>k<=s.size) (λk=>s.size-k) 0 (by simp) (by simp+decide[int]) ?_
 intro k F
 by_cases G:k<s.size
 .have H:(k:Int)<s.size:=by omega
  have e1:byteAt s (k:Int)=(zD s k:Int):=gP s k
  by_cases b1:(zD s k:Int)=32
  .simp+decide[int,H,e1,b1]
  .simp+decide[int,H,e1,b1,I64]
   exact⟨⟨by omega,by omega⟩,k+1,G,by omega,by omega⟩
 .have H:¬(k:Int)<s.size:=by omega
  simp+decide[int,H];refine zF.some (by rfl) (Cc s hs) ?_
  rintro r ⟨b,rfl⟩
  simp+decide
def uc(b:Nat):Bool:=decide (97<=b)&&decide (b<=122)
def wq(b:Nat):Bool:=uc b || (decide (48<=b)&&decide (b<=57)) || decide (b=45) || decide (b=95)
def nameP(s:ByteArray):Bool:=decide (1<=s.size)&&decide (s.size<=32)&&uc (zD s 0)&&(List.range s.size).all λk=>wq (zD s k)
theorem PO(b:Nat):(97<=b/\b<=122)\/(48<=b/\b<=57)\/b=45\/b=95\/(b<48/\b≠45)\/(57<b/\b<97/\b≠95)\/122<b:=by omega
theorem Cd(s:ByteArray)(hs:s.size<=9223372036854775807):zj Tryz.prog 143 [.str s] (.bool (nameP s)):=by
 refine zn mixed Tryz.func143 rfl c_143 ?_
 simp+decide[Tryz.f143]
 refine zr mixed (λk:Nat=>{n:=59,next:=0,slots:=[(0,.d (.str s)),(3,.d (.int .i64 k))],own:=[]})
  (λk=>k<=s.size/\∀ j,j<k->(wq (zD s j)=true/\(j=0->uc (zD s 0)=true))) (λk=>s.size-k) 0 (by simp) (by simp+decide) ?_
 intro k ⟨M,O⟩
 by_cases F:k<s.size
 .have H:(k:Int)<s.size:=by omega
  have e0:byteAt s (k:Int)=(zD s k:Int):=gP s k
  have good:wq (zD s k)=true->(k=0->uc (zD s k)=true)->∀ j,j<k+1->(wq (zD s j)=true/\(j=0->uc (zD s 0)=true)):=by
   intro Q T j hj;rcases Nat.lt_or_ge j k with J | J
   .exact O j J
   .have:j=k:=by omega
    subst this;exact⟨Q,λe=>by subst e;exact T rfl⟩
  have bad:wq (zD s k)=false->nameP s=false:=λQ=>by
   have:(List.range s.size).all (λk=>wq (zD s k))=false:=by rw[List.all_eq_false];exact⟨k,by simpa using F,by simp[Q]⟩
   simp only[nameP,this,Bool.and_false]
  have bad0:k=0->uc (zD s k)=false->nameP s=false:=λT Q=>by
   subst T;simp only[nameP,Q,Bool.and_false,Bool.false_and]
  generalize zD s k=b at e0 good bad bad0;by_cases hs:97<=b/\b<=122
  .obtain⟨c1,c2⟩:=hs
   have q1:(97:Int)<=b:=by omega
   have q2:(b:Int)<=122:=by omega
   have V:uc b=true:=by simp[uc];omega
   simp+decide[H,e0,q1,q2,I64];exact⟨by omega,k+1,⟨by omega,good (by simp[wq,V]) (λ_=>V)⟩,by omega,by omega⟩
  .have V:uc b=false:=by simp[uc];omega
   by_cases G:k=0
   .subst G
    have Q:=bad0 rfl V;have e0':byteAt s 0=(b:Int):=e0
    by_cases q1:(97:Int)<=b
    .have q2:¬(b:Int)<=122:=by omega
     simp+decide[F,e0',q1,q2,Q]
    .simp+decide[F,e0',q1,Q]
   .have L:¬(k:Int)=0:=by omega
    have key:∀ (r:Bool),wq b=r->(decide (97<=(b:Int))&&decide ((b:Int)<=122))=false:=λ_ _=>by simp;omega
    by_cases q1:(97:Int)<=b
    .have q2:¬(b:Int)<=122:=by omega
     have q3:¬(b:Int)=45:=by omega
     have q4:¬(b:Int)=95:=by omega
     have q5:¬(b:Int)<48:=by omega
     have q6:(57:Int)<b:=by omega
     have Q:=bad (by simp[wq,V];omega)
     simp+decide[H,e0,q1,q2,q3,q4,q5,q6,G,Q]
    .rcases PO b with⟨c1,c2⟩ | ⟨c1,c2⟩ | rfl | rfl | ⟨c1,c2⟩ | ⟨c1,c2,c3⟩ | c1
     .omega
     .have q3:¬(b:Int)=45:=by omega
      have q4:¬(b:Int)=95:=by omega
      have q5:¬(b:Int)<48:=by omega
      have q6:¬(57:Int)<b:=by omega
      simp+decide[H,e0,q1,q3,q4,q5,q6,G,I64];exact⟨by omega,k+1,⟨by omega,good (by simp[wq];omega) (λh=>absurd h G)⟩,by omega,by omega⟩
     .simp+decide[H,e0,G,I64]
      exact⟨by omega,k+1,⟨by omega,good (by decide) (λh=>absurd h G)⟩,by omega,by omega⟩
     .simp+decide[H,e0,G,I64]
      exact⟨by omega,k+1,⟨by omega,good (by decide) (λh=>absurd h G)⟩,by omega,by omega⟩
     .have q3:¬(b:Int)=45:=by omega
      have q4:¬(b:Int)=95:=by omega
      have q5:(b:Int)<48:=by omega
      have Q:=bad (by simp[wq,V];omega)
      simp+decide[H,e0,q1,q3,q4,q5,G,Q]
     .have q3:¬(b:Int)=45:=by omega
      have q4:¬(b:Int)=95:=by omega
      have q5:¬(b:Int)<48:=by omega
      have q6:(57:Int)<b:=by omega
      have Q:=bad (by simp[wq,V];omega)
      simp+decide[H,e0,q1,q3,q4,q5,q6,G,Q]
     .omega
 .have:k=s.size:=by omega
  subst this;have E:(List.range s.size).all (λk=>wq (zD s k))=true:=by
   rw[List.all_eq_true];intro j hj;exact(O j (by simpa using hj)).1
  by_cases X:1<=s.size
  .have K:(1:Int)<=s.size:=by omega
   have V:=(O 0 (by omega)).2 rfl
   simp+decide[K,nameP,E,V,X];omega
  .have K:¬(1:Int)<=s.size:=by omega
   simp+decide[K,nameP,X]
def ZE(l:List ByteArray):D:=.sl (l.map λs=>[.str s])
theorem PP(l:List ByteArray)(s:ByteArray)(F:l.length<2^40):xU Tryz.prog 146 [ZE l,.str s] Jd:=by
 refine qV mixed Tryz.func146 rfl c_146 ?_
 simp+decide[Tryz.f146,ZE]
 refine zr mixed (λk:Nat=>{n:=18,next:=0,slots:=[(0,.d (ZE l)),(1,.d (.str s)),(5,.d (int k))],own:=[]})
  (λk=>k<=l.length) (λk=>l.length-k) 0 (by simp) (by simp+decide[int,ZE]) ?_
 intro k E
 by_cases G:k<l.length
 .have H:(k:Int)<l.length:=by omega
  obtain⟨x,ex⟩:∃ x,l[k]=x:=⟨_,rfl⟩;have e1:l[k]?=some x:=by rw[List.getElem?_eq_getElem G,ex]
  by_cases b1:x=s
  .simp+decide[int,ZE,G,H,ex,b1]
  .simp+decide[int,ZE,G,H,ex,I64]
   first | exact λ_=>⟨⟨by omega,by omega⟩,k+1,G,by omega,by omega⟩ | exact⟨⟨by omega,by omega⟩,k+1,G,by omega,by omega⟩
 .have H:¬(k:Int)<l.length:=by omega
  simp+decide[int,ZE,H]
structure OrthC(o:Orth):Prop where
 name:o.name.size<=1048576
 units:∀ u∈o.units,u.graph.size<=1048576/\u.segs.length<=1048576
 letters:∀ l∈o.letters,l.length<=1048576/\∀ s∈l,s.size<=1048576
 few:o.units.length<=1048576/\o.letters.length<=1048576
def U0(s:ByteArray):Bool:=Lib.validD s.data.toList
end Go.V
namespace Go.V.Doc
open Go Go.Proofs
def badByte(b:Nat):Bool:=decide (b<32) || decide (b=127)
def Jf(s:ByteArray):Bool:=(List.range s.size).any λk=>badByte (zD s k)
def textE(s:ByteArray):Int:=if 200<s.size then 5 else if U0 s=true then (if Jf s=true then 3 else 0) else 3
end Go.V.Doc
namespace Go.V
open Go Go.Proofs
structure Dec where
 ref:Rf
 yes:Bool
 pick:List Prt
 deriving DecidableEq
def Dec.row(d:Dec):List D:=[int d.ref.rcd,int d.ref.note,.bool d.yes,zl d.pick]
def zB(l:List Dec):D:=.sl (l.map Dec.row)
def uI(r:Rf):D:=.agg r.row
theorem U1(look:Nat->Option Obj'):∀ (l:List D),vj look (l.map .d)=some (l,false)
 | []=>rfl
 |d::r=>by simp only[List.map_cons,vj,lend,U1 look r];rfl
def ud:List Int->Int
 | []=>0
 |x::l=>if x=0 then ud l else x
theorem PQ{l:List Int}{k:Nat}(h:k<l.length):ud (l.drop k)=if l[k]=0 then ud (l.drop (k+1)) else l[k]:=by
 rw[List.drop_eq_getElem_cons h];rfl
def Ce(a b:Rf):Int:=ud [xK a.rcd b.rcd,xK a.note b.note]
end Go.V
namespace Go.V.Doc
open Go
structure Nt where
 id:Int
 tier:Int
 par:Int
 fr:Int
 tO:Int
 rank:Int
 text:ByteArray
 deriving Inhabited,DecidableEq
def Nt.enc(n:Nt):List Value:=[.int .i64 n.id,.int .i64 n.tier,.int .i64 n.par,.int .i64 n.fr,.int .i64 n.tO,.int .i64 n.rank,.string n.text]
def ZF(a b:Nt):Int:=ud [xK a.par b.par,xK a.fr b.fr,xK a.rank b.rank]
end Go.V.Doc
namespace Go.V.Doc
open Go Go.Proofs
variable [Dr]
def Nt.row(n:Nt):List D:=[int n.id,int n.tier,int n.par,int n.fr,int n.tO,int n.rank,.str n.text]
def zy(l:List Nt):D:=.sl (l.map Nt.row)
theorem gQ:RowEnc Nt.enc Nt.row 7 where
 pos:=by decide
 len:=λ_=>rfl
 one:=by intro x v H;simp[Nt.enc] at H;rcases H with rfl | rfl | rfl | rfl | rfl | rfl | rfl <;> rfl
 rlen:=λ_=>rfl
 read:=by
  intro w E x;simp only[Nt.row,Nt.enc,zi,R,int];exact⟨_,_,rfl,rfl,rfl,_,_,rfl,rfl,rfl,_,_,rfl,rfl,rfl,_,_,rfl,rfl,rfl,_,_,rfl,rfl,rfl,_,_,rfl,rfl,rfl,_,_,rfl,rfl,rfl,rfl⟩
 uniq:=by
  intro w E x vs h;simp only[Nt.row,zi,R,int] at h;obtain⟨_,_,rfl,_,rfl,_,_,rfl,_,rfl,_,_,rfl,_,rfl,_,_,rfl,_,rfl,_,_,rfl,_,rfl,_,_,rfl,_,rfl,_,_,rfl,_,rfl,rfl⟩:=h;rfl
theorem Qb(n:Int):zj Tryz.prog 123 [int n] (.bool false):=by
 refine zn mixed Tryz.func123 rfl c_123 ?_
 simp[Tryz.f123,int]
theorem gI(a b:Int):zj Tryz.prog 67 [int a,int b] (int (xK a b)):=by
 refine zn mixed Tryz.func67 rfl c_67 ?_
 simp[Tryz.f67,int]
 refine zg (Qb a) ?_
 simp
 refine zg (Qb b) ?_
 simp[xK]
 refine⟨λh h'=>by omega,λh=>by omega⟩
theorem U2(l:List Int)(G:l.length<2^62):zj Tryz.prog 166 [ints l] (int (ud l)):=by
 refine zn mixed Tryz.func166 rfl c_166 ?_
 simp[Tryz.f166,ints]
 refine zr mixed (λk:Nat=>{n:=18,next:=0,slots:=[(0,.d (ints l)),(3,.d (int 0)),(6,.d (ints l)),(7,.d (.int .i64 l.length)),(8,.d (.int .i64 k))],own:=[]})
  (λk=>k<=l.length/\ud l=ud (l.drop k)) (λk=>l.length-k) 0 (by simp) (by simp[ints,int]) ?_
 intro k ⟨F,E⟩
 by_cases H:k<l.length
 .have e1:l[k]?=some l[k]:=List.getElem?_eq_getElem H
  rw[PQ H] at E;simp+decide[ints,int,H,I64];refine⟨λh=>?_,λh=>⟨by omega,k+1,⟨H,?_⟩,by omega,by omega⟩⟩
  .rw[E,if_neg h]
  .rw[E,if_pos h]
 .have:k=l.length:=by omega
  subst this;simp+decide[ints,int,E,ud]
theorem PR(a b:Nt):zj Tryz.prog 113 [.agg a.row,.agg b.row] (int (ZF a b)):=by
 refine zn mixed Tryz.func113 rfl c_113 ?_
 simp+decide[Tryz.f113,Nt.row,int]
 refine scp (gI a.par b.par) ?_
 simp+decide[int]
 refine scp (gI a.fr b.fr) ?_
 simp+decide[int]
 refine scp (gI a.rank b.rank) ?_
 simp+decide[int,inOrder,rowsOf,rowOf,qG]
 refine scp (U2 [xK a.par b.par,xK a.fr b.fr,xK a.rank b.rank] (by simp)) ?_
 simp+decide[ZF,int]
theorem PS{blk off size:Nat}{w:World}{E:Nat->Prop}(H:Seen w E)(G:E blk):Go.Proofs.CmpLays Tryz.prog 113 #[] Nt.enc 7 ZF blk off size w:=by
 let d:Dr:=⟨true⟩
 exact @Is d _ _ _ _ _ _ _ rfl _ _ gQ (λx y=>@PR d x y) _ _ _ _ _ H G
end Go.V.Doc
namespace Go.V.Doc
open Go Go.Proofs
structure Tir where
 name:ByteArray
 kind:Int
 role:Int
 par:Int
 deriving Inhabited,DecidableEq
def Tir.row(t:Tir):List D:=[.str t.name,int t.kind,int t.role,int t.par]
def zK(l:List Tir):D:=.sl (l.map Tir.row)
structure Dc where
 id:Int
 name:ByteArray
 len:Int
 day:Int
 spk:List Int
 tiers:List Tir
 notes:List Nt
 deriving DecidableEq
def Dc.row(d:Dc):List D:=[int d.id,.str d.name,int d.len,int d.day,ints d.spk,zK d.tiers,zy d.notes]
def zw(d:Dc):D:=.agg d.row
theorem take_snoc'{α:Type}{l:List α}{k:Nat}(h:k<l.length):l.take (k+1)=l.take k++[l[k]]:=by rw[List.take_succ_eq_append_getElem h]
theorem Cf{α:Type}{p:α->Prop}{l:List α}{k:Nat}(h:k<l.length)(H:∀ e∈l.take k,p e)(G:p l[k]):∀ e∈l.take (k+1),p e:=by
 rw[take_snoc' h]
 intro e F
 rcases List.mem_append.1 F with F | F
 .exact H e F
 .simp at F;rw[F];exact G
@[simp] theorem zix{a b:ByteArray}:a.toList=b.toList↔a=b:=by
 rw[<-MapKept.bytes_beq,beq_toListBytes,beq_iff_eq]
structure Dc.fit(d:Dc):Prop where
 notes:d.notes.length<=320
 tiers:d.tiers.length<=20
 spk:d.spk.length<=100
def Nt.zero:Nt:=⟨0,0,0,0,0,0,⟨#[]⟩⟩
def zp(l:List Nt)(id:Int):Nt×Bool:=match l.find? (λn=>decide (n.id=id)) with
 |some n=>(n,true)
 |none=>(Nt.zero,false)
def getD'(r:Nt×Bool):D:=.tup [.agg r.1.row,.bool r.2]
theorem Cg{l:List Nt}{id:Int}{k:Nat}(h:k<l.length)(H:∀ e∈l.take k,e.id≠id)(G:l[k].id=id):zp l id=(l[k],true):=by
 have:l.find? (λn=>decide (n.id=id))=some l[k]:=by
  rw[List.find?_eq_some_iff_append];refine⟨by simpa using G,l.take k,l.drop (k+1),by rw[List.getElem_cons_drop,List.take_append_drop],λe F=>by simpa using H e F⟩
 simp[zp,this]
theorem Ch{l:List Nt}{id:Int}(H:∀ e∈l,e.id≠id):zp l id=(Nt.zero,false):=by
 have:l.find? (λn=>decide (n.id=id))=none:=by rw[List.find?_eq_none];intro e G;simpa using H e G
 simp[zp,this]
abbrev yh(d:Dc):List Sym:=[.d (int d.id),.d (.str d.name),.d (int d.len),.d (int d.day),.d (ints d.spk),.d (zK d.tiers),.d (zy d.notes)]
abbrev noteCells(n:Nt):List Sym:=[.d (int n.id),.d (int n.tier),.d (int n.par),.d (int n.fr),.d (int n.tO),.d (int n.rank),.d (.str n.text)]
theorem ZG(d:Dc)(id:Int)(G:d.notes.length<2^62):zj Tryz.prog 54 [zw d,int id] (getD' (zp d.notes id)):=by
 refine zn mixed Tryz.func54 rfl c_54 ?_
 simp+decide[Tryz.f54,zw,Dc.row,zy,zK,ints,int]
 refine zr mixed (λk:Nat=>{n:=22,next:=2,slots:=[(1,.d (int id)),(2,.bp 0 0),(4,.bp 1 0),(5,.d (.bool false)),(9,.d (zy d.notes)),(10,.d (.int .i64 d.notes.length)),(11,.d (.int .i64 k))],own:=[(0,.box 53 (yh d)),(1,.box 72 (noteCells Nt.zero))]})
  (λk=>k<=d.notes.length/\∀ e∈d.notes.take k,e.id≠id) (λk=>d.notes.length-k) 0 (by simp) (by simp+decide[zy,zK,ints,int,Nt.zero]) ?_
 intro k ⟨F,E⟩
 by_cases H:k<d.notes.length
 .have e1:d.notes[k]?=some d.notes[k]:=List.getElem?_eq_getElem H
  simp+decide[zy,int,Nt.row,Nt.zero,H,I64];refine⟨λh=>?_,λh=>⟨by omega,k+1,⟨H,Cf H E h⟩,by omega,by omega⟩⟩
  simp[getD',Cg H E h,Nt.row,int]
 .have:k=d.notes.length:=by omega
  subst this;rw[List.take_length] at E;simp+decide[zy,int,Ch E,getD',Nt.row,Nt.zero]
theorem ZH(d:Dc)(id:Int)(G:d.notes.length<2^62):zj Tryz.prog 36 [zw d,int id] (getD' (zp d.notes id)):=by
 refine zn mixed Tryz.func36 rfl c_36 ?_
 simp+decide[Tryz.f36,zw,Dc.row,zy,zK,ints,int]
 refine zr mixed (λk:Nat=>{n:=28,next:=2,slots:=[(1,.d (int id)),(2,.bp 0 0),(4,.bp 1 0),(5,.d (.bool false)),(6,.d (.int .i64 k))],own:=[(0,.box 53 (yh d)),(1,.box 72 (noteCells Nt.zero))]})
  (λk=>k<=d.notes.length/\∀ e∈d.notes.take k,e.id≠id) (λk=>d.notes.length-k) 0 (by simp) (by simp+decide[zy,zK,ints,int,Nt.zero]) ?_
 intro k ⟨F,E⟩
 by_cases H:k<d.notes.length
 .have e1:d.notes[k]?=some d.notes[k]:=List.getElem?_eq_getElem H
  simp+decide[zy,zK,ints,int,Nt.row,Nt.zero,H,I64];refine⟨λh=>?_,λh=>⟨by omega,k+1,⟨H,Cf H E h⟩,by omega,by omega⟩⟩
  simp[getD',Cg H E h,Nt.row,int]
 .have:k=d.notes.length:=by omega
  subst this;rw[List.take_length] at E;simp+decide[zy,zK,ints,int,Ch E,getD',Nt.row,Nt.zero]
end Go.V.Doc

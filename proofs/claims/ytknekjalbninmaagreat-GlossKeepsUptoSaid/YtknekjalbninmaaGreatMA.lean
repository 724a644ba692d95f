/- Contracts and plain laws of this seat: part MA. It needs no conditions. -/
import Derived.Test.YtknekjalbninmaaGreatTab
import Derived.Test.YtknekjalbninmaaGreatW1
import Derived.Test.YtknekjalbninmaaGreatB1
import Derived.Test.YtknekjalbninmaaGreatU0
import Derived.Lib.TrimU
import GoSem.Core.Value
import Derived.Test.YtknekjalbninmaaGreatS1
set_option maxHeartbeats 32000000
set_option linter.unusedVariables false
set_option linter.unusedSimpArgs false
set_option linter.unusedSectionVars false
set_option maxRecDepth 100000
namespace Go.V
open Go Go.Proofs
instance:Dr:=⟨false⟩
instance:Ov:=⟨false⟩
@[simp] theorem zjd(n:Int)(k:Sym->Prop):arith .i64 n k=(I64 n/\k (.d (.int .i64 n))):=rfl
@[simp] theorem zje(n:Int)(k:Sym->Prop):arith .i32 n k=k (.d (.int .i32 (IntKind.i32.wrap n))):=rfl
@[simp] theorem zji(n:Int)(k:Sym->Prop):arith .u8 n k=k (.d (.int .u8 (IntKind.u8.wrap n))):=rfl
@[simp] theorem zjf(n:Int)(k:Sym->Prop):arith .u32 n k=k (.d (.int .u32 (IntKind.u32.wrap n))):=rfl
@[simp] theorem zjg(n:Int)(k:Sym->Prop):arith .u64 n k=k (.d (.int .u64 (IntKind.u64.wrap n))):=rfl
def int(n:Int):D:=.int .i64 n
def ints(l:List Int):D:=.sl (l.map λn=>[.int .i64 n])
structure Phon where
 name:ByteArray
 feat:Int
 deriving DecidableEq
structure Grap where
 graph:ByteArray
 segs:List Int
 deriving DecidableEq
structure Orth where
 name:ByteArray
 units:List Grap
 letters:List (List ByteArray)
 deriving DecidableEq
structure Cls where
 mask:Int
 value:Int
 deriving DecidableEq
structure Rule where
 src:List Int
 dst:List Int
 left:List Cls
 right:List Cls
 beg:Bool
 fin:Bool
 deriving DecidableEq
structure Stp where
 src:Int
 cls:Int
 dst:Int
 deriving DecidableEq
structure Nett where
 states:Int
 steps:List Stp
 final:List Int
 deriving DecidableEq
structure Sens where
 gloss:ByteArray
 defn:ByteArray
 deriving DecidableEq
structure Lnk where
 kind:Int
 dst:Int
 deriving DecidableEq
structure Rf where
 rcd:Int
 note:Int
 deriving DecidableEq
structure Ent where
 id:Int
 form:List Int
 cls:Int
 alts:List (List Int)
 main:Int
 senses:List Sens
 links:List Lnk
 refs:List Rf
 deriving DecidableEq
structure Lang where
 inv:List Phon
 orth:Orth
 rules:List Rule
 net:Nett
 lex:List Ent
 deriving DecidableEq
structure Prt where
 entry:Int
 alt:Int
 sense:Int
 deriving DecidableEq
def Phon.row(p:Phon):List D:=[.str p.name,int p.feat]
def zF(l:List Phon):D:=.sl (l.map Phon.row)
def Grap.row(u:Grap):List D:=[.str u.graph,ints u.segs]
def zG(l:List Grap):D:=.sl (l.map Grap.row)
def j3(l:List (List ByteArray)):D:=.sl (l.map λr=>[.sl (r.map λs=>[.str s])])
def Orth.cells(o:Orth):List D:=[.str o.name,zG o.units,j3 o.letters]
def Cls.row(c:Cls):List D:=[int c.mask,int c.value]
def j4(l:List Cls):D:=.sl (l.map Cls.row)
def Rule.row(r:Rule):List D:=[ints r.src,ints r.dst,j4 r.left,j4 r.right,.bool r.beg,.bool r.fin]
def xC(l:List Rule):D:=.sl (l.map Rule.row)
def Stp.row(s:Stp):List D:=[int s.src,int s.cls,int s.dst]
def stepsD(l:List Stp):D:=.sl (l.map Stp.row)
def Nett.cells(n:Nett):List D:=[int n.states,stepsD n.steps,ints n.final]
def Sens.row(s:Sens):List D:=[.str s.gloss,.str s.defn]
def zV(l:List Sens):D:=.sl (l.map Sens.row)
def Lnk.row(s:Lnk):List D:=[int s.kind,int s.dst]
def yE(l:List Lnk):D:=.sl (l.map Lnk.row)
def Rf.row(s:Rf):List D:=[int s.rcd,int s.note]
def vn(l:List Rf):D:=.sl (l.map Rf.row)
def xq(l:List (List Int)):D:=.sl (l.map λa=>[ints a])
def Ent.row(e:Ent):List D:=[int e.id,ints e.form,int e.cls,xq e.alts,int e.main,zV e.senses,yE e.links,vn e.refs]
def zh(l:List Ent):D:=.sl (l.map Ent.row)
def Lang.d(g:Lang):D:=.agg [zF g.inv,.str g.orth.name,zG g.orth.units,j3 g.orth.letters,xC g.rules,int g.net.states,stepsD g.net.steps,ints g.net.final,zh g.lex]
def Prt.row(p:Prt):List D:=[int p.entry,int p.alt,int p.sense]
def y9(l:List Prt):D:=.sl (l.map Prt.row)
def yI(a:List Prt):D:=.agg [y9 a]
@[simp ↓] theorem zjz(p:Prop):(true = !true->p)=True:=by simp
@[simp ↓] theorem zj0(p:Prop):(false = !false->p)=True:=by simp
@[simp ↓] theorem zj1(p:Prop):(true = !false->p)=p:=by simp
@[simp ↓] theorem zj2(p:Prop):(false = !true->p)=p:=by simp
@[simp ↓] theorem zj5(p:Prop):(true=false->p)=True:=by simp
@[simp ↓] theorem zj6(p:Prop):(false=true->p)=True:=by simp
@[simp ↓] theorem zj7(p:Prop):(true=true->p)=p:=by simp
@[simp ↓] theorem zj8(p:Prop):(false=false->p)=p:=by simp
theorem take_snoc{α:Type}{l:List α}{k:Nat}(h:k<l.length):l.take (k+1)=l.take k++[l[k]]:=by
 rw[List.take_add_one,List.getElem?_eq_getElem h];rfl
theorem NU(a b:List Int)(F:b.length<2^62):zj Tryz.prog 171 [ints a,ints b] (.bool (decide (a=b))):=by
 refine zn mixed Tryz.func171 rfl c_171 ?_
 simp[Tryz.f171,ints]
 refine⟨λh e=>h (by rw[e]),λh=>?_⟩
 refine zm mixed (λk:Nat=>{n:=26,next:=0,slots:=[(0,.d (ints a)),(1,.d (ints b)),(12,.d (.int .i64 a.length)),(13,.d (.int .i64 k))],own:=[]})
  (λk=>k<=a.length/\a.take k=b.take k) (λk=>a.length-k) 0 (by simp) (by simp[ints]) ?_
 intro k ⟨E,K⟩
 have h:a.length=b.length:=by omega
 by_cases G:k<a.length
 .have e1:a[k]?=some a[k]:=List.getElem?_eq_getElem G
  have e2:b[k]?=some (b[k]'(by omega)):=List.getElem?_eq_getElem (by omega)
  have H:k<b.length:=by omega
  simp+decide[ints,G,H,I64];refine⟨λhne e=>hne (by subst e;rfl),λhe=>⟨by omega,k+1,⟨G,?_⟩,by omega,by omega⟩⟩
  rw[take_snoc G,take_snoc H,K,he]
 .have:k=a.length:=by omega
  subst this;simp+decide[ints];rw[List.take_length,h,List.take_length] at K;exact K
def xQ(inv:List Phon)(n:Int):Bool:=decide (1<=n)&&decide (n<=inv.length)
theorem W7(inv:List Phon)(n:Int):zj Tryz.prog 197 [.agg [zF inv],int n] (.bool (xQ inv n)):=by
 refine zn mixed Tryz.func197 rfl c_197 ?_
 simp[Tryz.f197,zF,int,xQ]
 omega
theorem NV(inv:List Phon)(n:Int):zj Tryz.prog 284 [.agg [zF inv],int n] (.bool (xQ inv n)):=by
 refine zn mixed Tryz.func284 rfl c_284 ?_
 simp[Tryz.f284,zF,int,xQ]
 omega
def j5(a b:Int):Int:=if a<b then -1 else if b<a then 1 else 0
def yF(l:List Ent)(id:Int):Int:=match l.findIdx? (·.id=id) with
 |some k=>k
 |none=>-1
theorem W8{l:List Ent}{id:Int}{k:Nat}(h:k<l.length)(H:∀ e∈l.take k,e.id≠id)(G:l[k].id=id):l.findIdx? (·.id=id)=some k:=by
 rw[List.findIdx?_eq_some_iff_getElem]
 refine⟨h,by simpa using G,λj hj=>?_⟩
 have:=H l[j] (by rw[List.mem_take_iff_getElem];exact⟨j,by omega,rfl⟩)
 simpa using this
theorem W9{l:List Ent}{id:Int}(H:∀ e∈l,e.id≠id):l.findIdx? (·.id=id)=none:=by
 rw[List.findIdx?_eq_none_iff];intro e G;simpa using H e G
theorem YY{α:Type}{p:α->Prop}{l:List α}{k:Nat}(h:k<l.length)(H:∀ e∈l.take k,p e)(G:p l[k]):∀ e∈l.take (k+1),p e:=by
 rw[take_snoc h]
 intro e F
 rcases List.mem_append.1 F with F | F
 .exact H e F
 .simp at F;rw[F];exact G
theorem Wa(l:List Ent)(id:Int)(G:l.length<2^62):zj Tryz.prog 110 [zh l,int id] (int (yF l id)):=by
 refine zn mixed Tryz.func110 rfl c_110 ?_
 simp[Tryz.f110,zh,int]
 refine zm mixed (λk:Nat=>{n:=20,next:=0,slots:=[(0,.d (zh l)),(1,.d (int id)),(5,.d (.int .i64 k))],own:=[]})
  (λk=>k<=l.length/\∀ e∈l.take k,e.id≠id) (λk=>l.length-k) 0 (by simp) (by simp[zh,int]) ?_
 intro k ⟨F,E⟩
 by_cases H:k<l.length
 .have e1:l[k]?=some l[k]:=List.getElem?_eq_getElem H
  simp+decide[zh,Ent.row,int,H,I64];refine⟨λh=>?_,λh=>⟨by omega,k+1,⟨H,YY H E h⟩,by omega,by omega⟩⟩
  simp[yF,W8 H E h]
 .have:k=l.length:=by omega
  subst this;simp+decide[zh,int];simp[yF,W9 (by simpa using E)]
theorem Wb(l:List Ent)(id:Int)(G:l.length<2^62):zj Tryz.prog 152 [zh l,int id] (int (yF l id)):=by
 refine zn mixed Tryz.func152 rfl c_152 ?_
 simp[Tryz.f152,zh,int]
 refine zm mixed (λk:Nat=>{n:=20,next:=0,slots:=[(0,.d (zh l)),(1,.d (int id)),(5,.d (.int .i64 k))],own:=[]})
  (λk=>k<=l.length/\∀ e∈l.take k,e.id≠id) (λk=>l.length-k) 0 (by simp) (by simp[zh,int]) ?_
 intro k ⟨F,E⟩
 by_cases H:k<l.length
 .have e1:l[k]?=some l[k]:=List.getElem?_eq_getElem H
  simp+decide[zh,Ent.row,int,H,I64];refine⟨λh=>?_,λh=>⟨by omega,k+1,⟨H,YY H E h⟩,by omega,by omega⟩⟩
  simp[yF,W8 H E h]
 .have:k=l.length:=by omega
  subst this;simp+decide[zh,int];simp[yF,W9 (by simpa using E)]
def uB(inv:List Phon)(n:Int)(c:Cls):Bool:=xQ inv n&&(match inv[n.toNat-1]? with
 |some p=>decide (c.value=qy .and .i64 p.feat c.mask)
 |none=>false)
theorem NW(inv:List Phon)(n:Int)(c:Cls)(F:inv.length<2^62):zj Tryz.prog 291 [.agg [zF inv],int n,.agg c.row] (.bool (uB inv n c)):=by
 refine zn mixed Tryz.func291 rfl c_291 ?_
 simp+decide[Tryz.f291,int,Cls.row]
 refine scp (NV inv n) ?_
 by_cases hs:xQ inv n=true
 .have G:=hs
  simp only[xQ,Bool.and_eq_true,decide_eq_true_eq] at G;have H:n.toNat-1<inv.length:=by omega
  have e1:inv[n.toNat-1]?=some inv[n.toNat-1]:=List.getElem?_eq_getElem H
  have e2:¬n<1:=by omega
  simp+decide[zF,hs,H,Phon.row,int,I64,uB];omega
 .simp+decide[hs,uB]
def Ent.zero:Ent:=⟨0,[],0,[],0,[],[],[]⟩
def zL(l:List Ent)(id:Int):Ent×Bool:=match l.find? (·.id=id) with
 |some e=>(e,true)
 |none=>(Ent.zero,false)
theorem NY{l:List Ent}{id:Int}{k:Nat}(h:k<l.length)(H:∀ e∈l.take k,e.id≠id)(G:l[k].id=id):l.find? (·.id=id)=some l[k]:=by
 rw[List.find?_eq_some_iff_getElem]
 refine⟨by simpa using G,k,h,rfl,λj hj=>?_⟩
 have:=H l[j] (by rw[List.mem_take_iff_getElem];exact⟨j,by omega,rfl⟩)
 simpa using this
theorem NZ{l:List Ent}{id:Int}(H:∀ e∈l,e.id≠id):l.find? (·.id=id)=none:=by
 rw[List.find?_eq_none];intro e G;simpa using H e G
theorem O0(l:List Ent)(id:Int)(G:l.length<2^62):zj Tryz.prog 47 [zh l,int id] (.tup [.agg (zL l id).1.row,.bool (zL l id).2]):=by
 refine zn mixed Tryz.func47 rfl c_47 ?_
 simp[Tryz.f47,zh,int,Value.oneCell']
 refine zm mixed (λk:Nat=>{n:=25,next:=1,slots:=[(0,.d (zh l)),(1,.d (int id)),(4,.bp 0 0),(8,.d (.int .i64 l.length)),(9,.d (.int .i64 k))],own:=[(0,.box 102 [.d (int 0),.nils,.d (int 0),.nils,.d (int 0),.nils,.nils,.nils])]})
  (λk=>k<=l.length/\∀ e∈l.take k,e.id≠id) (λk=>l.length-k) 0 (by simp) (by simp[zh,int]) ?_
 intro k ⟨F,E⟩
 by_cases H:k<l.length
 .have e1:l[k]?=some l[k]:=List.getElem?_eq_getElem H
  simp+decide[zh,Ent.row,int,H,I64];refine⟨λh=>?_,λh=>⟨by omega,k+1,⟨H,YY H E h⟩,by omega,by omega⟩⟩
  simp[zL,NY H E h]
 .have:k=l.length:=by omega
  subst this;simp+decide[zh,int];simp[zL,NZ (by simpa using E),Ent.zero,Ent.row,int,ints,xq,zV,yE,vn]
def FN(l:List Rule):Bool:=l.any λr=>decide (0∈r.dst)
def Ent.forms(e:Ent):List (List Int):=e.form::e.alts
def O1(a b:Prt):Bool:=if a.entry=b.entry then (if a.alt=b.alt then decide (a.sense<b.sense) else decide (a.alt<b.alt)) else decide (a.entry<b.entry)
def YZ:List Prt->List Prt->Bool
 |a::l,b::m=>if a=b then YZ l m else O1 a b
 | [],_::_=>true
 |_,[]=>false
theorem yr{α:Type}{l:List α}{k:Nat}(h:k<l.length):l.take (k+1)=l.take k++[l[k]]:=by
 rw[List.take_succ_eq_append_getElem h]
def u32(m:Nat):D:=.int .u32 m
def X0(m:Nat)(q:Int):Bool:=m.testBit q.toNat
def jS(m:Nat)(q:Int):Nat:=m ||| (1 <<< q.toNat)
theorem O2:∀ (m:Fin 8) (q:Fin 3),(decide (qy .and .u32 (k6 .shr .u32 (m.val:Int) (q.val:Int)) 1=1))=m.val.testBit q.val:=by decide +kernel
theorem O3:∀ (m:Fin 8) (q:Fin 3),qy .or .u32 (m.val:Int) (k6 .shl .u32 1 (q.val:Int))=((m.val ||| (1 <<< q.val):Nat):Int):=by decide +kernel
theorem O4:∀ (m:Fin 8) (q:Fin 3),m.val ||| (1 <<< q.val)<8:=by decide +kernel
theorem O5{m:Nat}{q:Int}(H:m<8)(G:0<=q)(F:q<3):(decide (qy .and .u32 (k6 .shr .u32 (m:Int) q) 1=1))=X0 m q:=by
 have:=O2 ⟨m,H⟩ ⟨q.toNat,by omega⟩
 simp only[show((q.toNat:Nat):Int)=q by omega] at this
 exact this
theorem O6{m:Nat}{q:Int}(H:m<8)(G:0<=q)(F:q<3):qy .or .u32 (m:Int) (k6 .shl .u32 1 q)=((jS m q:Nat):Int):=by
 have:=O3 ⟨m,H⟩ ⟨q.toNat,by omega⟩
 simp only[show((q.toNat:Nat):Int)=q by omega] at this
 exact this
theorem FO{m:Nat}{q:Int}(H:m<8)(G:0<=q)(F:q<3):jS m q<8:=O4 ⟨m,H⟩ ⟨q.toNat,by omega⟩
theorem O7(m:Nat)(q:Int)(H:m<8)(G:0<=q)(F:q<3):zj Tryz.prog 265 [u32 m,int q] (.bool (X0 m q)):=by
 refine zn mixed Tryz.func265 rfl c_265 ?_
 simp+decide[Tryz.f265,u32,int]
 have E:IntKind.u64.wrap q=q:=by rw[IntKind.wrap_u64];omega
 rw[E]
 exact .inl ⟨G,O5 H G F⟩
theorem FP(m:Nat)(q:Int)(H:m<8)(G:0<=q)(F:q<3):zj Tryz.prog 204 [u32 m,int q] (u32 (jS m q)):=by
 refine zn mixed Tryz.func204 rfl c_204 ?_
 simp+decide[Tryz.f204,u32,int]
 have E:IntKind.u64.wrap q=q:=by rw[IntKind.wrap_u64];omega
 rw[E]
 exact .inl ⟨G,O6 H G F⟩
abbrev Wc(n:Nett)(m:Nat):D:=.fn 264 [.ptr n.cells,.ptr [u32 m]]
theorem O8(n:Nett)(m:Nat):zj Tryz.prog 235 [.agg n.cells,u32 m] (Wc n m):=by
 refine zn mixed Tryz.func235 rfl c_235 ?_
 simp+decide[Tryz.f235,u32,int,Nett.cells]
def vK(m:Nat)(c:Int)(out:Nat)(s:Stp):Nat:=if X0 m s.src=true/\s.cls=c then jS out s.dst else out
def uC(l:List Stp)(m:Nat)(c:Int):Nat:=l.foldl (vK m c) 0
def gX(l:List Stp):Prop:=∀ s∈l,(0<=s.src/\s.src<3)/\(0<=s.dst/\s.dst<3)
theorem Wg{m:Nat}{c:Int}:∀ {l:List Stp} {out:Nat},gX l->out<8->l.foldl (vK m c) out<8
 | [],out,_,h=>h
 |s::l,out,H,h=>by
  rw[List.foldl_cons];refine Wg (λx hx=>H x (by simp[hx])) ?_
  unfold vK;split
  .have:=(H s (by simp)).2;exact FO h this.1 this.2
  .exact h
theorem O9{l:List Stp}(h:gX l)(m:Nat)(c:Int):uC l m c<8:=Wg h (by omega)
def jT(n:Nett)(m:Nat):List Sym:=[.junk,.junk,.junk,.junk,.junk,.bp 2 0,.junk,.bp 1 0,.junk,.junk,.junk,.d (Wc n m),.junk,.junk,.junk,.junk,.junk,.junk,.junk,.junk,.junk,.junk]
@[simp] theorem zil(n:Nett)(m:Nat):Sym.los 3 (jT n m):=by simp[jT,Sym.los,Sym.lo]
noncomputable def qU(n:Nett)(m:Nat)(c:Int)(out:Nat)(s:LoopState):List (Nat×Obj'):=
 [(0,.raw (.lp #[12] (qD Tryz.f203) (qE Tryz.f203) s none) (jT n m)),(1,.box 218 [.d (u32 out)]),(2,.box 3 [.d (int c)])]
theorem Oa(n:Nett)(m:Nat)(c:Int)(out:Nat)(H:out<8)(s:Stp)(hs:0<=s.dst/\s.dst<3):
  uu Tryz.prog 0 [.d (.agg s.row)] (qU n m c out .ready) 3 (.d (.bool true)) 3 (qU n m c (if s.cls=c then jS out s.dst else out) .ready) []:=by
 refine QF (cells:=jT n m) (ps:=#[12]) (aS := qD Tryz.f203) (bd:=qE Tryz.f203) rfl (by simp) (by simp[jT]) (by omega) (by simp[Sym.los,Sym.lo]) ?_
 have G:=FP out s.dst H hs.1 hs.2
 by_cases F:s.cls=c
 .rw[if_pos F]
  simp+decide[qU,jT,qD,qE,vI,Tryz.f203,Stp.row,int,u32,F];refine zg G ?_
  simp+decide[u32]
 .rw[if_neg F]
  simp+decide[qU,jT,qD,qE,vI,Tryz.f203,Stp.row,int,u32,F]
theorem Ob(n:Nett)(m:Nat)(c:Int)(E:gX n.steps)(J:m<8)(L:n.steps.length<2^40):
  zA Tryz.prog 264 [.yd 0,.d (.ptr n.cells),.d (.ptr [u32 m])] (qU n m c 0 .ready) 3 (.d (.tup [])) 3 (qU n m c (uC n.steps m c) .ready) []:=by
 refine zA.QJ (xA mixed Tryz.func264 rfl c_264 (by simp[Sym.los,Sym.lo]) ?_)
 simp+decide[Tryz.f264,Nett.cells,stepsD,int,u32]
 refine x9 mixed (λk:Nat=>{n:=24,next:=3,base:=3,slots:=[(0,.yd 0),(1,.d (.ptr n.cells)),(2,.d (.ptr [u32 m])),(7,.d (stepsD n.steps)),(8,.d (int n.steps.length)),(9,.d (int k))],own:=qU n m c ((n.steps.take k).foldl (vK m c) 0) .ready})
  (λk=>k<=n.steps.length) (λk=>n.steps.length-k) 0 (by simp) (by simp+decide[int,u32,stepsD,Nett.cells,qU]) ?_
 intro k M
 refine JD ?_
 by_cases G:k<n.steps.length
 case neg=>
  have:k=n.steps.length:=by omega
  subst this;rw[List.take_length];have O:(n.steps.foldl (vK m c) 0)=uC n.steps m c:=rfl
  rw[O];simp+decide[int,u32,stepsD,Nett.cells,qU]
 have F:(k:Int)<n.steps.length:=by omega
 have hsn:(n.steps.take (k+1)).foldl (vK m c) 0=vK m c ((n.steps.take k).foldl (vK m c) 0) n.steps[k]:=by rw[yr G,List.foldl_append];rfl
 have K:(n.steps.take k).foldl (vK m c) 0<8:=Wg (λx Q=>E x (List.mem_of_mem_take Q)) (by omega)
 obtain⟨s,es⟩:∃ s,n.steps[k]=s:=⟨_,rfl⟩
 have e1:n.steps[k]?=some s:=by rw[List.getElem?_eq_getElem G,es]
 have H:=E s (by rw[<-es];exact List.getElem_mem G)
 rw[es] at hsn
 generalize (n.steps.take k).foldl (vK m c) 0=out at hsn K
 have T:=O7 m s.src J H.1.1 H.1.2
 have V:=Oa n m c out K s H.2
 simp+decide[int,u32,stepsD,Nett.cells,Stp.row,qU,G,F,es]
 refine zg T ?_
 cases X:X0 m s.src with
 |false=>
  have h2:vK m c out s=out:=by unfold vK;rw[if_neg (by rw[X];simp)]
  rw[h2] at hsn;simp+decide[I64];exact⟨⟨by omega,by omega⟩,k+1,G,by omega,by omega,by rw[hsn]⟩
 |true=>
  have h2:vK m c out s=if s.cls=c then jS out s.dst else out:=by unfold vK;rw[X];simp
  rw[h2] at hsn;simp+decide
  refine ui.tO 0 [0,1,2] [.d (.agg s.row)] (qU n m c out .ready) (by simp[rho]) (by simp[Stp.row,int]) (by simp[Sym.los,Sym.lo]) (by simp[qU,jT,u32,int];rfl) V ?_
  simp+decide[int,u32,qU,jT,I64];exact⟨⟨by omega,by omega⟩,k+1,G,by omega,by omega,by rw[hsn]⟩
theorem Oc(n:Nett)(m:Nat)(c:Int)(H:gX n.steps)(G:m<8)(F:n.steps.length<2^40):
  zj Tryz.prog 203 [.agg n.cells,u32 m,int c] (u32 (uC n.steps m c)):=by
 refine M1 Tryz.func203 rfl c_203 ?_
 refine gG mixed 2 {n:=22,next:=3,slots:=[(1,.d (u32 m)),(3,.bp 0 0),(5,.bp 1 0),(7,.bp 2 0)],own:=[(0,.box 33 (n.cells.map .d)),(1,.box 3 [.d (int c)]),(2,.box 218 [.d (u32 0)])]} rfl ?_ ?_
 .simp+decide[Tryz.f203,x8,Nett.cells,int,u32]
 simp only[xB]
 refine JF (gG mixed 1 {n:=22,next:=3,slots:=[(5,.bp 1 0),(7,.bp 2 0),(11,.d (Wc n m))],own:=[(1,.box 3 [.d (int c)]),(2,.box 218 [.d (u32 0)])]} rfl ?_ ?_)
 .simp+decide[x8,Nett.cells,int,u32]
  refine zg (O8 n m) ?_
  simp+decide
 simp only[xB]
 refine JG (JE (k:=0) (ids:=[3,2,1]) (args0:=[.yd 0,.d (.ptr n.cells),.d (.ptr [u32 m])]) (own0:=qU n m c 0 .ready) (by rfl) (by simp[rho]) (by simp) (by simp[Sym.los,Sym.lo]) ?_ (Ob n m c H G F) ?_)
 .simp+decide[qU,jT,qD,qE,vI,Tryz.f203,u32,int]
 .simp+decide[qU,jT,u32,int]
def jA(l:List Stp)(cs:List Int):Nat:=cs.foldl (λm c=>uC l m c) 1
def j6(l:List Int):Nat:=l.foldl jS 0
theorem Wh{l:List Stp}(h:gX l):∀ (cs:List Int) (m:Nat),m<8->cs.foldl (λm c=>uC l m c) m<8
 | [],m,hm=>hm
 |c::cs,m,hm=>by rw[List.foldl_cons];exact Wh h cs _ (O9 h m c)
theorem Wi:∀ (l:List Int) (m:Nat),(∀ q∈l,0<=q/\q<3)->m<8->l.foldl jS m<8
 | [],m,_,H=>H
 |q::l,m,h,H=>by
  rw[List.foldl_cons];exact Wi l _ (λx hx=>h x (by simp[hx])) (FO H (h q (by simp)).1 (h q (by simp)).2)
theorem Oe(n:Nett)(F:gX n.steps)(K:n.steps.length<2^40)(cs:List Int)(J:cs.length<2^40):zj Tryz.prog 156 [.agg n.cells,ints cs] (u32 (jA n.steps cs)):=by
 refine zn mixed Tryz.func156 rfl c_156 ?_
 simp+decide[Tryz.f156,Nett.cells,int,ints,u32]
 refine zm mixed (λk:Nat=>{n:=20,next:=1,slots:=[(2,.bp 0 0),(5,.d (u32 (jA n.steps (cs.take k)))),(8,.d (ints cs)),(9,.d (int cs.length)),(10,.d (int k))],own:=[(0,.box 33 (n.cells.map .d))]})
  (λk=>k<=cs.length) (λk=>cs.length-k) 0 (by simp) (by simp+decide[int,ints,u32,Nett.cells,jA]) ?_
 intro k L
 by_cases H:k<cs.length
 case neg=>
  have:k=cs.length:=by omega
  subst this;rw[List.take_length];simp+decide[int,ints,u32]
 have G:(k:Int)<cs.length:=by omega
 have hsn:jA n.steps (cs.take (k+1))=uC n.steps (jA n.steps (cs.take k)) cs[k]:=by unfold jA;rw[yr H,List.foldl_append];rfl
 have E:jA n.steps (cs.take k)<8:=Wh F _ 1 (by omega)
 obtain⟨c,ec⟩:∃ c,cs[k]=c:=⟨_,rfl⟩
 have e1:cs[k]?=some c:=by rw[List.getElem?_eq_getElem H,ec]
 rw[ec] at hsn
 generalize jA n.steps (cs.take k)=m at hsn E
 have M:=Oc n m c F E K
 simp+decide[int,ints,u32,Nett.cells,H,G,ec]
 refine zg M ?_
 simp+decide[u32,I64]
 exact⟨⟨by omega,by omega⟩,k+1,H,by omega,by rw[hsn],by omega⟩
theorem Og(n:Nett)(E:∀ q∈n.final,0<=q/\q<3)(K:n.final.length<2^40):zj Tryz.prog 157 [.agg n.cells] (u32 (j6 n.final)):=by
 refine zn mixed Tryz.func157 rfl c_157 ?_
 simp+decide[Tryz.f157,Nett.cells,int,ints,u32]
 refine zm mixed (λk:Nat=>{n:=18,next:=1,slots:=[(3,.d (u32 (j6 (n.final.take k)))),(7,.d (ints n.final)),(8,.d (int n.final.length)),(9,.d (int k))],own:=[]})
  (λk=>k<=n.final.length) (λk=>n.final.length-k) 0 (by simp) (by simp+decide[int,ints,u32,j6]) ?_
 intro k J
 by_cases H:k<n.final.length
 case neg=>
  have:k=n.final.length:=by omega
  subst this;rw[List.take_length];simp+decide[int,ints,u32]
 have G:(k:Int)<n.final.length:=by omega
 have hsn:j6 (n.final.take (k+1))=jS (j6 (n.final.take k)) n.final[k]:=by unfold j6;rw[yr H,List.foldl_append];rfl
 have F:j6 (n.final.take k)<8:=Wi _ 0 (λx L=>E x (List.mem_of_mem_take L)) (by omega)
 have M:=E n.final[k] (List.getElem_mem H)
 obtain⟨c,ec⟩:∃ c,n.final[k]=c:=⟨_,rfl⟩
 have e1:n.final[k]?=some c:=by rw[List.getElem?_eq_getElem H,ec]
 rw[ec] at hsn M
 generalize j6 (n.final.take k)=m at hsn F
 have O:=FP m c F M.1 M.2
 simp+decide[int,ints,u32,H,G,ec]
 refine zg O ?_
 simp+decide[u32,I64]
 exact⟨⟨by omega,by omega⟩,k+1,H,by omega,by rw[hsn],by omega⟩
def Wj(n:Nett):Prop:=gX n.steps/\(∀ q∈n.final,0<=q/\q<3)/\n.steps.length<2^40/\n.final.length<2^40
theorem Oh:∀ (a b:Fin 8),(qy .and .u32 (a.val:Int) (b.val:Int))=((a.val &&& b.val:Nat):Int):=by decide +kernel
def QW(n:Nett)(cs:List Int):Bool:=decide (jA n.steps cs &&& j6 n.final≠0)
theorem Oi(n:Nett)(H:Wj n)(cs:List Int)(G:cs.length<2^40):zj Tryz.prog 94 [.agg n.cells,ints cs] (.bool (QW n cs)):=by
 obtain⟨F,h2,E,K⟩:=H
 have w1:=Oe n F E cs G
 have w2:=Og n h2 K
 have l1:jA n.steps cs<8:=Wh F cs 1 (by omega)
 have l2:j6 n.final<8:=Wi _ 0 h2 (by omega)
 unfold QW
 generalize jA n.steps cs=a at w1 l1 ⊢
 generalize j6 n.final=b at w2 l2 ⊢
 have J:=Oh ⟨a,l1⟩ ⟨b,l2⟩
 simp only at J
 refine zn mixed Tryz.func94 rfl c_94 ?_
 simp+decide[Tryz.f94,Nett.cells,int,ints]
 refine scp w1 ?_
 simp+decide[u32]
 refine scp w2 ?_
 simp+decide[u32,J]
theorem Oj(e:Ent)(id:Int):zj Tryz.prog 98 [.agg e.row,.ptr [int id]] (.bool (decide (e.id=id))):=by
 refine zn mixed Tryz.func98 rfl c_98 ?_
 simp+decide[Tryz.f98,Ent.row,int]
theorem Ol(l:List Ent)(id:Int)(F:l.length<2^62):zj Tryz.prog 97 [zh l,.fn 98 [.ptr [int id]]] (int (yF l id)):=by
 refine zn mixed Tryz.func97 rfl c_97 ?_
 simp[Tryz.f97,zh]
 refine zm mixed (λk:Nat=>{n:=19,next:=0,slots:=[(0,.d (zh l)),(1,.d (.fn 98 [.ptr [int id]])),(6,.d (zh l)),(7,.d (.int .i64 l.length)),(8,.d (.int .i64 k))],own:=[]})
  (λk=>k<=l.length/\∀ e∈l.take k,e.id≠id) (λk=>l.length-k) 0 (by simp) (by simp[zh]) ?_
 intro k ⟨E,K⟩
 by_cases H:k<l.length
 .have G:(k:Int)<l.length:=by omega
  obtain⟨e,ee⟩:∃ e,l[k]=e:=⟨_,rfl⟩;have e1:l[k]?=some e:=by rw[List.getElem?_eq_getElem H,ee]
  simp+decide[zh,Ent.row,int,ee,H,G];refine zg (Oj e id) ?_
  by_cases J:e.id=id
  .have:=W8 H K (by rw[ee];exact J)
   simp+decide[J,yF,this]
  .simp+decide[J,I64]
   exact⟨⟨by omega,by omega⟩,k+1,⟨H,YY H K (by rw[ee];exact J)⟩,by omega,by omega⟩
 .have:k=l.length:=by omega
  subst this;simp+decide[zh,int];simp[yF,W9 (by simpa using K)]
theorem wF(l:List Ent)(id:Int):(yF l id<0/\zL l id=(Ent.zero,false))\/∃ k:Nat,∃ h:k<l.length,yF l id=k/\zL l id=(l[k],true):=by
 unfold yF zL
 cases h:l.findIdx? (·.id=id) with
 |none=>
  left
  rw[List.findIdx?_eq_none_iff] at h;have:l.find? (·.id=id)=none:=by rw[List.find?_eq_none];intro x H;simpa using h x H
  rw[this];exact⟨by simp,rfl⟩
 |some k=>
  right
  rw[List.findIdx?_eq_some_iff_getElem] at h;obtain⟨G,h2,F⟩:=h;refine⟨k,G,rfl,?_⟩
  have:l.find? (·.id=id)=some l[k]:=by
   rw[List.find?_eq_some_iff_getElem];exact⟨h2,k,G,rfl,λj E=>by simpa using F j E⟩
  rw[this]
theorem QX(l:List Ent)(id:Int)(F:l.length<2^40):zj Tryz.prog 42 [zh l,int id] (.tup [.agg (zL l id).1.row,.bool (zL l id).2]):=by
 refine zn mixed Tryz.func42 rfl c_42 ?_
 simp+decide[Tryz.f42,zh,int]
 refine zg (Ol l id (by omega)) ?_
 rcases wF l id with⟨E,h2⟩ | ⟨k,K,E,h2⟩
 .rw[h2]
  simp+decide[int,E,Ent.zero,Ent.row,ints,xq,zV,yE,vn]
 .rw[h2,E]
  have H:¬(k:Int)<0:=by omega
  have G:(k:Int)<l.length:=by omega
  simp+decide[int,H,K,G,Ent.row,ints,xq,zV,yE,vn]
def jU(l:List Ent):Nat->Int->Option (List Sens)
 |0,_=>none
 |f+1,id=>if (zL l id).2=true then (if (zL l id).1.senses≠[] then some (zL l id).1.senses else if (zL l id).1.main=0 then none else jU l f (zL l id).1.main) else none
def jB(l:List Ent)(id:Int):List Sens:=(jU l (l.length+1) id).getD []
theorem Om(l:List Sens)(H:l.length<2^40):zj Tryz.prog 103 [zV l] (zV l):=by
 refine zn mixed Tryz.func103 rfl c_103 ?_
 simp+decide[Tryz.f103,zV,maxLen]
 exact⟨λa _=>rfl,by omega,by omega⟩
def vL:List Sym:=[.junk,.junk,.junk,.junk,.bp 1 0,.junk,.junk,.junk,.fn 160 [.bp 2 0,.bp 3 0],.junk,.junk,.junk,.junk,.junk,.junk,.junk,.junk]
@[simp] theorem zim:Sym.los 4 vL:=by simp[vL,Sym.los,Sym.lo]
@[simp] theorem zhk:yl (yq [0,1,2,3] 5) vL=vL:=rfl
noncomputable def qq(s:LoopState)(pd:Option Code):Obj':=.raw (.lp #[9] (qD Tryz.f45) (qE Tryz.f45) s pd) vL
noncomputable def qj(l:List Ent)(id:Int):List (Nat×Obj'):=
 [(0,qq .ready none),(1,.box 98 [.nils]),(2,.box 34 [.d (zh l)]),(3,.box 3 [.d (int id)])]
noncomputable def Wl(l:List Ent)(id:Int)(ss:List Sens):List (Nat×Obj'):=
 [(0,qq .done (some .ret)),(1,.box 98 [.d (zV ss)]),(2,.box 34 [.d (zh l)]),(3,.box 3 [.d (int id)])]
theorem On(l:List Ent)(id:Int)(e:Ent)(H:e.senses=[]):
  uu Tryz.prog 0 [.d (.agg e.row)] (qj l id) 4 (.d (.bool true)) 4 (qj l id) []:=by
 refine QF (cells:=vL) (ps:=#[9]) (aS := qD Tryz.f45) (bd:=qE Tryz.f45) rfl (by simp) (by simp[vL]) (by omega) (by simp[Sym.los,Sym.lo]) ?_
 simp+decide[qj,qq,vL,qD,qE,vI,Tryz.f45,Ent.row,int,H,zV]
theorem Oo(l:List Ent)(id:Int)(e:Ent)(H:e.senses≠[])(G:e.senses.length<2^40):
  uu Tryz.prog 0 [.d (.agg e.row)] (qj l id) 4 (.d (.bool false)) 4 (Wl l id e.senses) []:=by
 refine QF (cells:=vL) (ps:=#[9]) (aS := qD Tryz.f45) (bd:=qE Tryz.f45) rfl (by simp) (by simp[vL]) (by omega) (by simp[Sym.los,Sym.lo]) ?_
 have F:=Om e.senses G
 have E:(0:Int)<e.senses.length:=by
  have:e.senses.length≠0:=λe2=>H (List.eq_nil_of_length_eq_zero e2)
  omega
 simp+decide[qj,Wl,qq,vL,qD,qE,vI,Tryz.f45,Ent.row,int,H,zV]
 intro _
 refine zg F ?_
 simp+decide[zV]
noncomputable def uD:Option (List Sens)->List (Nat×Obj')
 |none=>[(0,qq .ready none),(1,.box 98 [.nils])]
 |some ss=>[(0,qq .done (some .ret)),(1,.box 98 [.d (zV ss)])]
theorem Oq(l:List Ent)(id:Int)(L:l.length<2^40)(hs:∀ e∈l,e.senses.length<2^40):
  zA Tryz.prog 160 [.yd 0,.bp 2 0,.bp 3 0] (qj l id) 4 (.d (.tup [])) 4 (uD (jU l (l.length+1) id)) []:=by
 refine zA.QJ (xA mixed Tryz.func160 rfl c_160 (by simp[Sym.los,Sym.lo]) ?_)
 simp+decide[Tryz.f160,qj,zh,int,I64]
 refine⟨⟨by omega,by omega⟩,?_⟩
 refine x9 mixed (λx:Nat×Int=>{n:=33,next:=4,base:=4,slots:=[(0,.yd 0),(1,.bp 2 0),(2,.bp 3 0),(8,.d (int (l.length+1))),(9,.d (int x.1))],own:=qj l x.2})
  (λx=>x.1<=l.length+1/\jU l (l.length+1-x.1) x.2=jU l (l.length+1) id) (λx=>l.length+1-x.1) (0,id) (by simp) (by simp+decide[int,zh,qj,qq]) ?_
 rintro⟨k,i⟩ ⟨M,O⟩
 simp only at M O
 refine JD ?_
 by_cases J:k<l.length+1
 case neg=>
  have:k=l.length+1:=by omega
  subst this;rw[Nat.sub_self] at O;rw[<-O];simp+decide[int,zh,qj,qq,jU,uD]
 have E:(k:Int)<l.length+1:=by omega
 rw[show l.length+1-k=(l.length-k)+1 by omega,jU] at O
 have Q:=QX l i L
 have H:(zL l i).2=true->(zL l i).1∈l:=by
  rcases wF l i with⟨_,h2⟩ | ⟨j,T,_,h2⟩
  .rw[h2];intro h;cases h
  .rw[h2];intro _;exact List.getElem_mem T
 generalize zL l i=g at O Q H
 obtain⟨e,ok⟩:=g
 simp only at O Q H
 simp+decide[int,zh,qj,qq,E]
 refine zg Q ?_
 cases ok with
 |false=>
  simp only[Bool.false_eq_true,if_false] at O;rw[<-O];simp+decide[int,qq,uD,Ent.row]
 |true=>
  simp only[if_true] at O;have K:=H rfl;by_cases G:e.senses=[]
  .have V:=On l i e G
   rw[if_neg (by simp[G])] at O
   simp+decide[int,Ent.row];refine ui.tO 0 [0,1,2,3] [.d (.agg e.row)] (qj l i) (by simp[rho]) (by simp[Ent.row,int]) (by simp[Sym.los,Sym.lo]) (by simp[qj,qq,vL,zh,int];rfl) V ?_
   by_cases F:e.main=0
   .rw[if_pos F] at O
    rw[<-O];simp+decide[int,zh,qj,qq,uD,F]
   .rw[if_neg F] at O
    simp+decide[int,zh,qj,qq,uD,F];exact⟨by unfold I64;omega,k+1,e.main,⟨by omega,by rw[show l.length+1-(k+1)=l.length-k by omega];exact O⟩,by omega,by omega,rfl⟩
  .have V:=Oo l i e G (hs e K)
   rw[if_pos G] at O;rw[<-O];simp+decide[int,Ent.row];refine ui.tO 0 [0,1,2,3] [.d (.agg e.row)] (qj l i) (by simp[rho]) (by simp[Ent.row,int]) (by simp[Sym.los,Sym.lo]) (by simp[qj,qq,vL,zh,int];rfl) V ?_
   simp+decide[int,zh,Wl,qq,uD]
theorem Ot(l:List Ent)(id:Int):zA Tryz.prog 102 [.d (zh l),.d (int id)] [] 0 (.fn 160 [.bp 0 0,.bp 1 0]) 2 [(0,.box 34 [.d (zh l)]),(1,.box 3 [.d (int id)])] []:=by
 refine xA mixed Tryz.func102 rfl c_102 (by simp[Sym.los,Sym.lo]) ?_
 simp+decide[Tryz.f102,zh,int]
theorem FQ(l:List Ent)(id:Int)(H:l.length<2^40)(hs:∀ e∈l,e.senses.length<2^40):zj Tryz.prog 45 [zh l,int id] (zV (jB l id)):=by
 refine M1 Tryz.func45 rfl c_45 ?_
 refine gG mixed 1 {n:=17,next:=1,slots:=[(0,.d (zh l)),(1,.d (int id)),(4,.bp 0 0)],own:=[(0,.box 98 [.nils])]} rfl ?_ ?_
 .simp+decide[Tryz.f45,x8,zh,int]
 simp only[xB]
 refine JF (gG mixed 1 {n:=17,next:=3,slots:=[(4,.bp 0 0),(8,.fn 160 [.bp 1 0,.bp 2 0])],own:=[(0,.box 98 [.nils]),(1,.box 34 [.d (zh l)]),(2,.box 3 [.d (int id)])]} rfl ?_ ?_)
 .simp+decide[x8,zh,int]
  refine zC.mut [] [.d (zh l),.d (int id)] [] (by rfl) (by simp[zh,int]) (by simp) (by simp) (Ot l id) ?_
  simp+decide[zh,int]
 simp only[xB]
 refine JG (JE (k:=0) (ids:=[3,0,1,2]) (args0:=[.yd 0,.bp 2 0,.bp 3 0]) (own0:=qj l id) (by rfl) (by simp[rho]) (by simp) (by simp[Sym.los,Sym.lo]) ?_ (Oq l id H hs) ?_)
 .simp+decide[qj,qq,vL,qD,qE,vI,Tryz.f45,int,zh]
 .unfold jB
  cases jU l (l.length+1) id with
  |none=>
   simp+decide[uD,qq,int,zh,zV]
  |some ss=>
   simp+decide[uD,qq,int,zh]
structure LexFit(l:List Ent):Prop where
 len:l.length<2^40
 alts:∀ e∈l,e.alts.length<2^39
 form:∀ e∈l,∀ w∈e.forms,w.length<2^20
 senses:∀ e∈l,e.senses.length<2^40
theorem QY{l:List Ent}{id:Int}(h:(zL l id).2=true):(zL l id).1∈l:=by
 rcases wF l id with⟨_,h2⟩ | ⟨j,H,_,h2⟩
 .rw[h2] at h;cases h
 .rw[h2];exact List.getElem_mem H
theorem FR{l:List Ent}(h:LexFit l)(id:Int):(zL l id).1.alts.length<2^39:=by
 cases H:(zL l id).2 with
 |true=>exact h.alts _ (QY H)
 |false=>
  rcases wF l id with⟨_,h2⟩ | ⟨j,G,_,h2⟩
  .rw[h2];simp[Ent.zero]
  .rw[h2] at H;cases H
theorem FT(e:Ent)(h:e.alts.length<2^40):zj Tryz.prog 44 [.agg e.row] (xq e.forms):=by
 refine zn mixed Tryz.func44 rfl c_44 ?_
 simp[Tryz.f44,Ent.row,xq,ints,Ent.forms,maxLen]
 omega
def yi:D->List Sym
 |.agg l=>l.map .d
 |_=>[]
def qH(l:List Ent)(p:Prt):Ent×List Int×Bool:=
 if (zL l p.entry).2=true/\0<=p.alt/\p.alt<(zL l p.entry).1.forms.length then ((zL l p.entry).1,((zL l p.entry).1.forms[p.alt.toNat]?.getD []),true) else ((zL l p.entry).1,[],false)
def jV(r:Ent×List Int×Bool):D:=.tup [.agg r.1.row,ints r.2.1,.bool r.2.2]
theorem Wm(g:Lang)(K:LexFit g.lex)(p:Prt):zj Tryz.prog 93 [g.d,.agg p.row] (jV (qH g.lex p)):=by
 have J:=QX g.lex p.entry K.len
 have L:=FR K p.entry
 unfold qH
 generalize zL g.lex p.entry=r at J L
 obtain⟨e,ok⟩:=r
 simp only at J L
 have M:=FT e (by omega)
 have E:e.forms.length=e.alts.length+1:=by simp[Ent.forms]
 refine zn mixed Tryz.func93 rfl c_93 ?_
 simp+decide[Tryz.f93,Lang.d,Prt.row,int]
 refine zg J ?_
 simp+decide[int,Ent.row]
 refine zg M ?_
 cases ok with
 |false=>
  simp+decide[int,Ent.row,jV,ints]
 |true=>
  by_cases O:p.alt<0
  .have H:¬0<=p.alt:=by omega
   simp+decide[int,Ent.row,jV,ints,O,H];done
  have H:0<=p.alt:=by omega
  by_cases Q:p.alt<e.forms.length
  .have F:p.alt.toNat<e.forms.length:=by omega
   obtain⟨w,ew⟩:∃ w,e.forms[p.alt.toNat]=w:=⟨_,rfl⟩;have e1:e.forms[p.alt.toNat]?=some w:=by rw[List.getElem?_eq_getElem F,ew]
   have G:¬(e.forms.length:Int)<=p.alt:=by omega
   simp+decide[int,Ent.row,xq,jV,O,H,Q,G,ew];refine G7 mixed 6 [2] (by rfl) (by rfl) (by rfl) (by rfl) (by simp) ?_
   simp+decide[ints,H,Q,ew,F]
  .have G:(e.forms.length:Int)<=p.alt:=by omega
   simp+decide[int,Ent.row,xq,jV,ints,O,H,Q,G]
def j7(l:List Ent)(ps:List Prt):List Int:=ps.flatMap λp=>if (qH l p).2.2=true then [(qH l p).1.cls] else []
def xM(l:List Ent)(ps:List Prt):List Int:=ps.flatMap λp=>if (qH l p).2.2=true then (qH l p).2.1 else []
theorem Ou{l:List Ent}{ps:List Prt}{k:Nat}(h:k<ps.length):j7 l (ps.take (k+1))=j7 l (ps.take k)++(if (qH l ps[k]).2.2=true then [(qH l ps[k]).1.cls] else []):=by
 unfold j7;rw[yr h,List.flatMap_append,List.flatMap_singleton]
theorem Ox{l:List Ent}{ps:List Prt}{k:Nat}(h:k<ps.length):xM l (ps.take (k+1))=xM l (ps.take k)++(if (qH l ps[k]).2.2=true then (qH l ps[k]).2.1 else []):=by
 unfold xM;rw[yr h,List.flatMap_append,List.flatMap_singleton]
theorem Wn(l:List Ent):∀ ps:List Prt,(j7 l ps).length<=ps.length
 | []=>by simp[j7]
 |p::ps=>by
  have:=Wn l ps
  unfold j7 at this ⊢;rw[List.flatMap_cons,List.length_append,List.length_cons];split <;> simp only[List.length_singleton,List.length_nil] <;> omega
theorem FU{l:List Ent}(h:LexFit l)(p:Prt):(qH l p).2.1.length<2^20:=by
 unfold qH
 split
 .rename_i hc
  have H:p.alt.toNat<(zL l p.entry).1.forms.length:=by omega
  show((zL l p.entry).1.forms[p.alt.toNat]?.getD []).length<_
  rw[List.getElem?_eq_getElem H];exact h.form _ (QY hc.1) _ (List.getElem_mem H)
 .simp
theorem Wp{l:List Ent}(h:LexFit l):∀ ps:List Prt,(xM l ps).length<=ps.length*2^20
 | []=>by simp[xM]
 |p::ps=>by
  have H:=Wp h ps;have h2:=FU h p;unfold xM at H ⊢;rw[List.flatMap_cons,List.length_append,List.length_cons,Nat.add_mul];split
  .omega
  .simp only[List.length_nil];omega
theorem Oy(g:Lang)(E:LexFit g.lex)(ps:List Prt)(K:ps.length<2^20):zj Tryz.prog 95 [g.d,yI ps] (ints (j7 g.lex ps)):=by
 refine zn mixed Tryz.func95 rfl c_95 ?_
 simp+decide[Tryz.f95,Lang.d,yI,y9,int]
 refine zm mixed (λk:Nat=>{n:=33,next:=4,slots:=[(2,.bp 0 0),(5,.ar 3),(12,.d (y9 ps)),(13,.d (int ps.length)),(14,.d (int k))],own:=[(0,.box 36 (yi g.d)),(3,.arr 3 1 ((j7 g.lex (ps.take k)).map λn=>[int n]))],moved:=[3]})
  (λk=>k<=ps.length) (λk=>ps.length-k) 0 (by simp) (by simp+decide[int,y9,j7,yi,Lang.d]) ?_
 intro k J
 by_cases H:k<ps.length
 case neg=>
  have:k=ps.length:=by omega
  subst this;rw[List.take_length];simp+decide[int,ints,y9]
 have G:(k:Int)<ps.length:=by omega
 have hsn:=Ou (l:=g.lex) H
 have F:=Wn g.lex (ps.take k)
 rw[List.length_take] at F
 obtain⟨p,ep⟩:∃ p,ps[k]=p:=⟨_,rfl⟩
 have e1:ps[k]?=some p:=by rw[List.getElem?_eq_getElem H,ep]
 rw[ep] at hsn
 have L:=Wm g E p
 generalize qH g.lex p=r at L hsn
 obtain⟨e,w,ok⟩:=r
 simp only at hsn
 simp+decide[int,y9,Prt.row,H,G,ep,yi,Lang.d]
 refine zg L ?_
 cases ok with
 |false=>
  simp only[Bool.false_eq_true,if_false,List.append_nil] at hsn;simp+decide[jV,int,ints,Ent.row,I64];exact⟨⟨by omega,by omega⟩,k+1,H,by omega,by omega,by rw[hsn]⟩
 |true=>
  simp only[if_true] at hsn;simp+decide[jV,int,ints,Ent.row,I64];exact⟨by omega,by unfold maxLen;omega,⟨by omega,by omega⟩,k+1,H,by omega,by omega,by rw[hsn];simp⟩
theorem FV(g:Lang)(K:LexFit g.lex)(ps:List Prt)(J:ps.length<2^20):zj Tryz.prog 96 [g.d,yI ps] (ints (xM g.lex ps)):=by
 refine zn mixed Tryz.func96 rfl c_96 ?_
 simp+decide[Tryz.f96,Lang.d,yI,y9,int]
 refine zm mixed (λk:Nat=>{n:=31,next:=4,slots:=[(2,.bp 0 0),(5,.ar 3),(12,.d (y9 ps)),(13,.d (int ps.length)),(14,.d (int k))],own:=[(0,.box 36 (yi g.d)),(3,.arr 3 1 ((xM g.lex (ps.take k)).map λn=>[int n]))],moved:=[3]})
  (λk=>k<=ps.length) (λk=>ps.length-k) 0 (by simp) (by simp+decide[int,y9,xM,yi,Lang.d]) ?_
 intro k L
 by_cases H:k<ps.length
 case neg=>
  have:k=ps.length:=by omega
  subst this;rw[List.take_length];simp+decide[int,ints,y9]
 have G:(k:Int)<ps.length:=by omega
 have hsn:=Ox (l:=g.lex) H
 have F:=Wp K (ps.take k)
 rw[List.length_take] at F
 obtain⟨p,ep⟩:∃ p,ps[k]=p:=⟨_,rfl⟩
 have e1:ps[k]?=some p:=by rw[List.getElem?_eq_getElem H,ep]
 rw[ep] at hsn
 have M:=Wm g K p
 have E:=FU K p
 generalize qH g.lex p=r at M hsn E
 obtain⟨e,w,ok⟩:=r
 simp only at hsn E
 simp+decide[int,y9,Prt.row,H,G,ep,yi,Lang.d]
 refine zg M ?_
 cases ok with
 |false=>
  simp only[Bool.false_eq_true,if_false,List.append_nil] at hsn;simp+decide[jV,int,ints,Ent.row,I64];exact⟨⟨by omega,by omega⟩,k+1,H,by omega,by omega,by rw[hsn]⟩
 |true=>
  simp only[if_true] at hsn;simp+decide[jV,int,ints,Ent.row,I64];exact⟨by omega,by unfold maxLen;omega,⟨by omega,by omega⟩,k+1,H,by omega,by omega,by rw[hsn];simp⟩
def kF(l:List Int)(x:Int):Int:=match l.findIdx? (· = x) with
 |some k=>k
 |none=>-1
theorem FX(l:List Int)(x:Int):(0<=kF l x↔x∈l):=by
 unfold kF
 cases h:l.findIdx? (· = x) with
 |none=>
  rw[List.findIdx?_eq_none_iff] at h;constructor
  .intro e;change (0:Int)<=-1 at e;omega
  .intro e;have:=h x e;simp at this
 |some k=>
  rw[List.findIdx?_eq_some_iff_getElem] at h;obtain⟨H,h2,_⟩:=h;constructor
  .intro _;have G:l[k]=x:=by simpa using h2
   rw[<-G];exact List.getElem_mem H
  .intro _;exact Int.natCast_nonneg k
theorem FY(l:List Int)(x:Int)(E:l.length<2^62):zj Tryz.prog 167 [ints l,int x] (int (kF l x)):=by
 refine zn mixed Tryz.func167 rfl c_167 ?_
 simp[Tryz.f167,ints]
 refine zm mixed (λk:Nat=>{n:=19,next:=0,slots:=[(0,.d (ints l)),(1,.d (int x)),(6,.d (ints l)),(7,.d (.int .i64 l.length)),(8,.d (.int .i64 k))],own:=[]})
  (λk=>k<=l.length/\∀ y∈l.take k,y≠x) (λk=>l.length-k) 0 (by simp) (by simp[ints,int]) ?_
 intro k ⟨K,J⟩
 by_cases H:k<l.length
 .have G:(k:Int)<l.length:=by omega
  obtain⟨c,ec⟩:∃ c,l[k]=c:=⟨_,rfl⟩;have e1:l[k]?=some c:=by rw[List.getElem?_eq_getElem H,ec]
  by_cases L:c=x
  .have M:l.findIdx? (· = x)=some k:=by
    rw[List.findIdx?_eq_some_iff_getElem];refine⟨H,by simpa[ec] using L,λj hj=>?_⟩
    have:=J l[j] (by rw[List.mem_take_iff_getElem];exact⟨j,by omega,rfl⟩)
    simpa using this
   subst L;simp+decide[ints,int,ec,H,G,kF,M]
  .have F:¬x=c:=λe=>L e.symm
   simp+decide[ints,int,ec,H,G,F,I64];exact⟨⟨by omega,by omega⟩,k+1,⟨H,YY H J (by rw[ec];exact L)⟩,by omega,by omega⟩
 .have:k=l.length:=by omega
  subst this;have M:l.findIdx? (· = x)=none:=by
   rw[List.findIdx?_eq_none_iff];intro y O;have:=J y (by rwa [List.take_length]);simpa using this
  simp+decide[ints,int,kF,M]
theorem Oz(l:List Int)(x:Int)(H:l.length<2^62):zj Tryz.prog 116 [ints l,int x] (.bool (decide (x∈l))):=by
 refine zn mixed Tryz.func116 rfl c_116 ?_
 simp+decide[Tryz.f116,int,ints]
 refine zg (FY l x H) ?_
 have:=FX l x
 simp+decide[int,this]
theorem FZ(l:List Int)(x:Int)(H:l.length<2^62):zj Tryz.prog 60 [ints l,int x] (.bool (decide (x∈l))):=by
 refine zn mixed Tryz.func60 rfl c_60 ?_
 simp+decide[Tryz.f60,int,ints]
 refine zg (Oz l x H) ?_
 simp+decide
def QZ(inv:List Phon)(cs:List Cls):D:=.agg [zF inv,j4 cs]
theorem OA(inv:List Phon)(cs:List Cls)(k:Nat)(G:k<cs.length)(n:Int)(F:inv.length<2^62):zj Tryz.prog 281 [QZ inv cs,int k,int n] (.bool (uB inv n cs[k])):=by
 have H:(k:Int)<cs.length:=by omega
 obtain⟨c,ec⟩:∃ c,cs[k]=c:=⟨_,rfl⟩
 have e1:cs[k]?=some c:=by rw[List.getElem?_eq_getElem G,ec]
 rw[ec]
 refine zn mixed Tryz.func281 rfl c_281 ?_
 simp+decide[Tryz.f281,int,QZ,j4,Cls.row,G,H,ec]
 refine scp (NW inv n c F) ?_
 simp+decide
def uE(inv:List Phon)(cs:List Cls)(ws:List Int):Bool:=(ws.zip cs).all λx=>uB inv x.1 x.2
theorem OB{α β:Type}{a:List α}{b:List β}{k:Nat}(h:k<a.length)(H:k<b.length):(a.take (k+1)).zip (b.take (k+1))=(a.take k).zip (b.take k)++[(a[k],b[k])]:=by
 rw[yr h,yr H,List.zip_append (by rw[List.length_take,List.length_take];omega)];rfl
theorem D1(inv:List Phon)(cs:List Cls)(ws:List Int)(J:ws.length=cs.length)(L:inv.length<2^62)(M:cs.length<2^62):
  zj Tryz.prog 280 [.fn 281 [],QZ inv cs,ints ws] (.bool (uE inv cs ws)):=by
 refine zn mixed Tryz.func280 rfl c_280 ?_
 simp+decide[Tryz.f280,QZ,ints]
 refine zm mixed (λk:Nat=>{n:=23,next:=1,slots:=[(0,.d (.fn 281 [])),(4,.bp 0 0),(9,.d (ints ws)),(10,.d (.int .i64 ws.length)),(11,.d (.int .i64 k))],own:=[(0,.box 319 [.d (zF inv),.d (j4 cs)])]})
  (λk=>k<=ws.length/\((ws.take k).zip (cs.take k)).all (λx=>uB inv x.1 x.2)=true) (λk=>ws.length-k) 0 (by simp) (by simp[ints]) ?_
 intro k ⟨O,Q⟩
 by_cases H:k<ws.length
 .have G:(k:Int)<ws.length:=by omega
  have E:k<cs.length:=by omega
  have T:=OA inv cs k E ws[k] L;have hsn:=OB H E;obtain⟨c,ec⟩:∃ c,ws[k]=c:=⟨_,rfl⟩;have e1:ws[k]?=some c:=by rw[List.getElem?_eq_getElem H,ec]
  rw[ec] at T hsn;simp+decide[ints,ec,H,G];refine zg T ?_
  cases V:uB inv c cs[k] with
  |true=>
   simp+decide[I64];refine⟨⟨by omega,by omega⟩,k+1,⟨H,?_⟩,by omega,by omega⟩
   intro x y K;have F:((ws.take (k+1)).zip (cs.take (k+1))).all (λx=>uB inv x.1 x.2)=true:=by rw[hsn,List.all_append,Q,Bool.true_and];simp[V]
   exact List.all_eq_true.1 F (x,y) K
  |false=>
   have X:uE inv cs ws=false:=by
    unfold uE;rw[List.all_eq_false];refine⟨(c,cs[k]),?_,by rw[V];decide⟩
    rw[List.mem_iff_getElem];exact⟨k,by rw[List.length_zip];omega,by rw[List.getElem_zip,ec]⟩
   simp+decide[X]
 .have:k=ws.length:=by omega
  subst this;rw[List.take_length,J,List.take_length] at Q;have X:uE inv cs ws=true:=Q
  simp+decide[ints,X]
def gY(inv:List Phon)(r:Rule)(w:List Int)(k:Nat):Bool:=
 decide (w[k]?.getD 0∈r.src)&&decide (r.left.length<=k)&&decide (k+1+r.right.length<=w.length) && !(r.beg&&decide (r.left.length<k)) && !(r.fin&&decide (k+1+r.right.length<w.length)) &&
  uE inv r.left ((w.take k).drop (k-r.left.length))&&uE inv r.right ((w.take (k+1+r.right.length)).drop (k+1))
structure RuleFit(r:Rule):Prop where
 src:r.src.length<2^40
 left:r.left.length<2^40
 right:r.right.length<2^40
theorem OC(inv:List Phon)(B:inv.length<2^62)(r:Rule)(C:RuleFit r)(w:List Int)(I:w.length<2^40)(k:Nat)(N:k<w.length):
  zj Tryz.prog 267 [.agg [zF inv],.agg r.row,ints w,int k] (.bool (gY inv r w k)):=by
 obtain⟨P,h2,S⟩:=C
 obtain⟨x,ex⟩:∃ x,w[k]=x:=⟨_,rfl⟩
 have e1:w[k]?=some x:=by rw[List.getElem?_eq_getElem N,ex]
 have V:(k:Int)<w.length:=by omega
 have W:=FZ r.src x (by omega)
 obtain⟨R,hR⟩:∃ R,gY inv r w k=R:=⟨_,rfl⟩
 rw[hR]
 unfold gY at hR
 rw[e1,Option.getD_some] at hR
 refine zn mixed Tryz.func267 rfl c_267 ?_
 obtain⟨src,dst,left,right,beg,fin⟩:=r
 simp only at P h2 S W hR
 simp+decide[Tryz.f267,int,Rule.row,j4,I64]
 refine⟨by omega,by omega,by omega,?_⟩
 simp+decide[ints,ex,N,V]
 refine scp W ?_
 by_cases hx:x∈src
 case neg=>
  have:R=false:=by rw[<-hR];simp[hx]
  subst this;simp+decide[hx]
 by_cases hf:left.length<=k
 case neg=>
  have:R=false:=by rw[<-hR];simp[hf]
  subst this;have H:(k:Int)-left.length<0:=by omega
  simp+decide[hx,H]
 have H:¬(k:Int)-left.length<0:=by omega
 by_cases ht:k+1+right.length<=w.length
 case neg=>
  have:R=false:=by rw[<-hR];simp[ht]
  subst this;have G:(w.length:Int)<k+1+right.length:=by omega
  simp+decide[hx,H,G]
 have G:¬(w.length:Int)<k+1+right.length:=by omega
 by_cases hb:beg=true/\left.length<k
 case pos=>
  obtain⟨X,J⟩:=hb;subst X;have:R=false:=by rw[<-hR];simp[J]
  subst this;have O:(0:Int)<(k:Int)-left.length:=by omega
  simp+decide[hx,H,G,J]
 have J:(beg&&decide (left.length<k))=false:=by
  cases beg
  .rfl
  .simp at hb;simp[hb]
 by_cases he:fin=true/\k+1+right.length<w.length
 case pos=>
  obtain⟨Y,L⟩:=he;subst Y;have:R=false:=by rw[<-hR];simp[L]
  subst this;have Q:(k:Int)+1+right.length<w.length:=by omega
  cases beg
  .simp+decide[hx,H,G,Q]
  .have O:¬(0:Int)<(k:Int)-left.length:=by simp at hb;omega
   simp+decide[hx,H,G,Q]
 have L:(fin&&decide (k+1+right.length<w.length))=false:=by
  cases fin
  .rfl
  .simp at he;simp[he]
 have Z:((w.take k).drop (k-left.length)).length=left.length:=by rw[List.length_drop,List.length_take];omega
 have A:((w.take (k+1+right.length)).drop (k+1)).length=right.length:=by rw[List.length_drop,List.length_take];omega
 have E:=D1 inv left _ Z B (by omega)
 have F:=D1 inv right _ A B (by omega)
 have eL:∀ a b,ints ((w.take a).drop b) = .sl (((w.map λn=>[D.int .i64 n]).take a).drop b):=λa b=>by simp[ints,List.map_drop,List.map_take]
 rw[eL] at E F
 rw[J,L] at hR
 generalize uE inv left ((w.take k).drop (k-left.length))=b1 at E hR
 generalize uE inv right ((w.take (k+1+right.length)).drop (k+1))=b2 at F hR
 have hR:R=(b1&&b2):=by rw[<-hR];simp[hx,hf,ht]
 subst hR
 have M:beg=true->¬(0:Int)<(k:Int)-left.length:=by
  intro e;subst e;simp at hb;omega
 have K:fin=true->¬(k:Int)+1+right.length<w.length:=by
  intro e;subst e;simp at he;omega
 have ek:((k:Int)+1+right.length).toNat=k+1+right.length:=by omega
 have ek1:((k:Int)+1).toNat=k+1:=by omega
 rw[<-ek] at F
 cases beg with
 |false=>
  cases fin with
  |false=>
   simp+decide[hx,hf,H,G];refine⟨⟨by omega,by omega⟩,?_⟩
   refine scp E ?_
   cases b1 with
   |false=>simp+decide
   |true=>
    simp+decide[I64];refine⟨⟨by omega,by omega⟩,⟨by omega,by omega,by omega⟩,?_⟩
    refine scp F ?_
    simp+decide
  |true=>
   have:=K rfl
   simp+decide[hx,hf,H,G,this];refine⟨⟨by omega,by omega⟩,?_⟩
   refine scp E ?_
   cases b1 with
   |false=>simp+decide
   |true=>
    simp+decide[I64];refine⟨⟨by omega,by omega⟩,⟨by omega,by omega,by omega⟩,?_⟩
    refine scp F ?_
    simp+decide
 |true=>
  have O:=M rfl;have T:¬left.length<k:=by omega
  cases fin with
  |false=>
   simp+decide[hx,hf,H,G,T];refine⟨⟨by omega,by omega⟩,?_⟩
   refine scp E ?_
   cases b1 with
   |false=>simp+decide
   |true=>
    simp+decide[I64];refine⟨⟨by omega,by omega⟩,⟨by omega,by omega,by omega⟩,?_⟩
    refine scp F ?_
    simp+decide
  |true=>
   have:=K rfl
   simp+decide[hx,hf,H,G,T,this];refine⟨⟨by omega,by omega⟩,?_⟩
   refine scp E ?_
   cases b1 with
   |false=>simp+decide
   |true=>
    simp+decide[I64];refine⟨⟨by omega,by omega⟩,⟨by omega,by omega,by omega⟩,?_⟩
    refine scp F ?_
    simp+decide
def ZL(inv:List Phon)(r:Rule)(w:List Int)(k:Nat)(x:Int):List Int:=
 if gY inv r w k=true then (if r.dst[(kF r.src x).toNat]?.getD 0=0 then [] else [r.dst[(kF r.src x).toNat]?.getD 0]) else [x]
def gZ(inv:List Phon)(r:Rule)(w:List Int):List Int:=(w.zipIdx.map λx=>ZL inv r w x.2 x.1).flatten
theorem OD{α:Type}{l:List α}{k:Nat}(h:k<l.length):l.zipIdx.take (k+1)=l.zipIdx.take k++[(l[k],k)]:=by
 have H:k<l.zipIdx.length:=by simpa using h
 rw[yr H]
 simp
def kG(inv:List Phon)(r:Rule)(w:List Int)(k:Nat):List Int:=((w.zipIdx.take k).map λx=>ZL inv r w x.2 x.1).flatten
theorem D2{inv:List Phon}{r:Rule}{w:List Int}{k:Nat}(h:k<w.length):kG inv r w (k+1)=kG inv r w k++ZL inv r w k w[k]:=by
 unfold kG;rw[OD h,List.map_append,List.flatten_append];simp
theorem OE(inv:List Phon)(r:Rule)(w:List Int)(k:Nat)(x:Int):(ZL inv r w k x).length<=1:=by
 unfold ZL;split
 .split <;> simp
 .simp
theorem Wq(inv:List Phon)(r:Rule)(w:List Int):∀ k,k<=w.length->(kG inv r w k).length<=k
 |0,_=>by simp[kG]
 |k+1,h=>by
  rw[D2 (by omega),List.length_append]
  have H:=Wq inv r w k (by omega)
  have h2:=OE inv r w k (w[k]'(by omega))
  omega
theorem D3(inv:List Phon)(r:Rule)(w:List Int):kG inv r w w.length=gZ inv r w:=by
 unfold kG gZ
 rw[List.take_of_length_le (by simp)]
structure RuleOk(r:Rule):Prop extends RuleFit r where
 dst:r.dst.length=r.src.length
theorem OG(inv:List Phon)(Q:inv.length<2^62)(r:Rule)(T:RuleOk r)(w:List Int)(V:w.length<2^40):
  zj Tryz.prog 237 [.agg [zF inv],.agg r.row,ints w] (ints (gZ inv r w)):=by
 rw[<-D3]
 refine zn mixed Tryz.func237 rfl c_237 ?_
 simp+decide[Tryz.f237,ints,Rule.row]
 refine zm mixed (λk:Nat=>{n:=38,next:=4,slots:=[(2,.d (ints w)),(3,.bp 0 0),(4,.bp 1 0),(7,.ar 3),(10,.d (ints w)),(11,.d (int w.length)),(12,.d (int k))],own:=[(0,.box 24 [.d (zF inv)]),(1,.box 90 (r.row.map .d)),(3,.arr 3 1 ((kG inv r w k).map λn=>[int n]))],moved:=[3]})
  (λk=>k<=w.length) (λk=>w.length-k) 0 (by simp) (by simp+decide[int,ints,Rule.row,kG]) ?_
 intro k X
 by_cases H:k<w.length
 case neg=>
  have:k=w.length:=by omega
  subst this;simp+decide[int,ints]
 have E:(k:Int)<w.length:=by omega
 have hsn:=D2 (inv:=inv) (r:=r) H
 have L:=Wq inv r w k X
 have Y:=OC inv Q r T.toRuleFit w V k H
 obtain⟨x,ex⟩:∃ x,w[k]=x:=⟨_,rfl⟩
 have e1:w[k]?=some x:=by rw[List.getElem?_eq_getElem H,ex]
 rw[ex] at hsn
 have Z:=FY r.src x (by have:=T.src;omega)
 have G:=FX r.src x
 have K:x∈r.src->∃ j:Nat,j<r.src.length/\kF r.src x=j:=by
  intro A;unfold kF at G ⊢;cases B:r.src.findIdx? (· = x) with
  |none=>rw[B] at G;exact absurd (G.2 A) (by decide)
  |some j=>
   rw[List.findIdx?_eq_some_iff_getElem] at B;exact⟨j,B.1,rfl⟩
 have F:gY inv r w k=true->x∈r.src:=by
  intro h;unfold gY at h;simp only[Bool.and_eq_true,decide_eq_true_eq] at h;have:=h.1.1.1.1.1.1
  rwa [e1,Option.getD_some] at this
 have M:=T.dst
 unfold ZL at hsn
 simp+decide[int,ints,Rule.row,H,E,ex]
 refine zg Y ?_
 cases C:gY inv r w k with
 |false=>
  rw[C] at hsn;simp only[Bool.false_eq_true,if_false] at hsn;simp+decide[I64];exact⟨by omega,by unfold maxLen;omega,⟨by omega,by omega⟩,k+1,H,by omega,by omega,by rw[hsn];simp⟩
 |true=>
  rw[C] at hsn;simp only[if_true] at hsn;obtain⟨j,I,ej⟩:=K (F C);have J:j<r.dst.length:=by omega
  obtain⟨y,ey⟩:∃ y,r.dst[j]=y:=⟨_,rfl⟩;have e2:r.dst[j]?=some y:=by rw[List.getElem?_eq_getElem J,ey]
  rw[ej,Int.toNat_natCast,e2,Option.getD_some] at hsn;rw[ej] at Z;have O:(j:Int)<r.dst.length:=by omega
  simp+decide
  refine scp Z ?_
  simp+decide[int,J,O,ey,I64];by_cases N:y=0
  .rw[if_pos N,List.append_nil] at hsn
   simp+decide[N];exact⟨⟨by omega,by omega⟩,k+1,H,by omega,by omega,by rw[hsn]⟩
  .rw[if_neg N] at hsn
   simp+decide[N];exact⟨by omega,by unfold maxLen;omega,⟨by omega,by omega⟩,k+1,H,by omega,by omega,by rw[hsn];simp⟩
theorem OH(inv:List Phon)(r:Rule)(w:List Int):(gZ inv r w).length<=w.length:=by
 rw[<-D3];exact Wq inv r w _ (Nat.le_refl _)
def vM(inv:List Phon)(rs:List Rule)(w:List Int):List Int:=rs.foldl (λw r=>gZ inv r w) w
theorem Ws(inv:List Phon):∀ (rs:List Rule) (w:List Int),(vM inv rs w).length<=w.length
 | [],w=>Nat.le_refl _
 |r::rs,w=>by
  have H:=Ws inv rs (gZ inv r w);have h2:=OH inv r w;unfold vM at H ⊢;rw[List.foldl_cons];omega
theorem OI(inv:List Phon)(K:inv.length<2^62)(rs:List Rule)(J:∀ r∈rs,RuleOk r)(L:rs.length<2^40)(w:List Int)(M:w.length<2^40):
  zj Tryz.prog 209 [.agg [zF inv],xC rs,ints w] (ints (vM inv rs w)):=by
 refine zn mixed Tryz.func209 rfl c_209 ?_
 simp+decide[Tryz.f209,ints,xC]
 refine zm mixed (λk:Nat=>{n:=21,next:=2,slots:=[(2,.d (ints (vM inv (rs.take k) w))),(3,.bp 0 0),(9,.d (xC rs)),(10,.d (int rs.length)),(11,.d (int k))],own:=[(0,.box 24 [.d (zF inv)])]})
  (λk=>k<=rs.length) (λk=>rs.length-k) 0 (by simp) (by simp+decide[int,ints,xC,vM]) ?_
 intro k O
 by_cases H:k<rs.length
 case neg=>
  have:k=rs.length:=by omega
  subst this;rw[List.take_length];simp+decide[int,ints,xC]
 have G:(k:Int)<rs.length:=by omega
 have hsn:vM inv (rs.take (k+1)) w=gZ inv rs[k] (vM inv (rs.take k) w):=by unfold vM;rw[yr H,List.foldl_append];rfl
 have E:=Ws inv (rs.take k) w
 have F:=J rs[k] (List.getElem_mem H)
 obtain⟨r,er⟩:∃ r,rs[k]=r:=⟨_,rfl⟩
 have e1:rs[k]?=some r:=by rw[List.getElem?_eq_getElem H,er]
 rw[er] at hsn F
 generalize vM inv (rs.take k) w=u at hsn E
 have Q:=OG inv K r F u (by omega)
 simp+decide[int,ints,xC,Rule.row,H,G,er]
 refine zg Q ?_
 simp+decide[ints,I64]
 exact⟨⟨by omega,by omega⟩,k+1,H,by omega,by rw[hsn],by omega⟩
structure LangOk(g:Lang):Prop where
 lex:LexFit g.lex
 inv:g.inv.length<2^40
 rules:(∀ r∈g.rules,RuleOk r)/\g.rules.length<2^40
 net:Wj g.net
def kH(l:List Ent)(p:Prt):Int:=
 if (zL l p.entry).2=false then 9 else if (qH l p).2.2=false then 2 else if p.sense<0\/(jB l p.entry).length<=p.sense then 22 else 0
def jC(l:List Ent):List Prt->Int
 | []=>0
 |p::ps=>if kH l p=0 then jC l ps else kH l p
theorem OJ{l:List Ent}{ps:List Prt}{k:Nat}(h:k<ps.length):jC l (ps.drop k)=if kH l ps[k]=0 then jC l (ps.drop (k+1)) else kH l ps[k]:=by
 rw[List.drop_eq_getElem_cons h];rfl
def vN(g:Lang)(ps:List Prt):Int:=
 if ps.length=0 then 4 else if 4<ps.length then 11 else if jC g.lex ps≠0 then jC g.lex ps else if QW g.net (j7 g.lex ps)=false then 21 else if 24<(xM g.lex ps).length then 5 else 0
theorem D5(g:Lang)(V:LangOk g)(ps:List Prt)(X:ps.length<2^20):zj Tryz.prog 41 [g.d,yI ps] (int (vN g ps)):=by
 refine zn mixed Tryz.func41 rfl c_41 ?_
 obtain⟨R,Y⟩:∃ R,vN g ps=R:=⟨_,rfl⟩
 rw[Y]
 unfold vN at Y
 by_cases Z:ps.length=0
 .rw[if_pos Z] at Y
  subst Y;simp+decide[Tryz.f41,Lang.d,yI,y9,int,Z];done
 rw[if_neg Z] at Y
 by_cases A:4<ps.length
 .rw[if_pos A] at Y
  subst Y;have E:(4:Int)<ps.length:=by omega
  have O:¬(ps.length:Int)=0:=by omega
  simp+decide[Tryz.f41,Lang.d,yI,y9,int,Z,E];done
 rw[if_neg A] at Y
 have E:¬(4:Int)<ps.length:=by omega
 have O:¬(ps.length:Int)=0:=by omega
 simp+decide[Tryz.f41,Lang.d,yI,y9,int,Z,E]
 refine zm mixed (λk:Nat=>{n:=73,next:=2,slots:=[(2,.bp 0 0),(3,.bp 1 0),(21,.d (y9 ps)),(22,.d (int ps.length)),(23,.d (int k))],own:=[(0,.box 36 (yi g.d)),(1,.box 39 [.d (y9 ps)])]})
  (λk=>k<=ps.length/\jC g.lex (ps.drop k)=jC g.lex ps) (λk=>ps.length-k) 0 (by simp) (by simp+decide[int,y9,yi,Lang.d]) ?_
 intro k ⟨B,K⟩
 by_cases G:k<ps.length
 case neg=>
  have:k=ps.length:=by omega
  subst this;rw[List.drop_length] at K;rw[<-K] at Y;have C:jC g.lex []=0:=rfl
  rw[C,if_neg (by simp)] at Y
  have I:=Oy g V.lex ps X;have N:=FV g V.lex ps X;have Q:=Wn g.lex ps;have P:=Oi g.net V.net (j7 g.lex ps) (by omega)
  have T:=Wp V.lex ps;simp+decide[int,y9,yi,Lang.d];refine scp I ?_
  simp+decide
  refine scp P ?_
  cases M:QW g.net (j7 g.lex ps) with
  |false=>
   rw[if_pos M] at Y;subst Y;simp+decide
  |true=>
   rw[if_neg (by rw[M];decide)] at Y
   simp+decide
   refine zg N ?_
   by_cases S:24<(xM g.lex ps).length
   .rw[if_pos S] at Y
    subst Y;have J:(24:Int)<(xM g.lex ps).length:=by omega
    simp+decide[ints,J]
   .rw[if_neg S] at Y
    subst Y;have J:¬(24:Int)<(xM g.lex ps).length:=by omega
    simp+decide[ints,J]
 have L:(k:Int)<ps.length:=by omega
 have hsn:=OJ (l:=g.lex) G
 rw[K] at hsn
 obtain⟨p,ep⟩:∃ p,ps[k]=p:=⟨_,rfl⟩
 have e1:ps[k]?=some p:=by rw[List.getElem?_eq_getElem G,ep]
 rw[ep] at hsn
 have W:=QX g.lex p.entry V.lex.len
 have hF:=Wm g V.lex p
 have hS:=FQ g.lex p.entry V.lex.len V.lex.senses
 unfold kH at hsn
 generalize zL g.lex p.entry=r1 at W hsn
 generalize qH g.lex p=r2 at hF hsn
 generalize jB g.lex p.entry=ss at hS hsn
 obtain⟨e,ok⟩:=r1
 obtain⟨e2,w,ok2⟩:=r2
 simp only at hsn
 simp+decide[int,y9,Prt.row,G,L,ep,yi,Lang.d]
 refine zg W ?_
 cases ok with
 |false=>
  have:R=9:=by rw[<-Y,hsn];simp
  subst this;simp+decide[int,Ent.row]
 |true=>
  simp+decide[int,Ent.row];refine zg hF ?_
  cases ok2 with
  |false=>
   have:R=2:=by rw[<-Y,hsn];simp
   subst this;simp+decide[int,jV,Ent.row]
  |true=>
   simp+decide[int,jV,Ent.row];by_cases H:p.sense<0
   .have:R=22:=by rw[<-Y,hsn];simp[H]
    subst this;simp+decide[H];intro h;omega
   .simp+decide[H]
    intro _;refine scp hS ?_
    by_cases F:(ss.length:Int)<=p.sense
    .have:R=22:=by rw[<-Y,hsn];simp[H,F]
     subst this;simp+decide[zV,F]
    .have hd:jC g.lex (ps.drop (k+1))=jC g.lex ps:=by rw[hsn];simp[H,F]
     simp+decide[zV,F];exact⟨⟨by omega,by omega⟩,k+1,⟨G,hd⟩,by omega,by simp⟩
def kJ(g:Lang)(ps:List Prt):List Int×Int:=
 if vN g ps≠0 then ([],vN g ps) else if (vM g.inv g.rules (xM g.lex ps)).length=0 then ([],23) else (vM g.inv g.rules (xM g.lex ps),0)
theorem OL(g:Lang)(E:LangOk g)(ps:List Prt)(K:ps.length<2^20):zj Tryz.prog 170 [g.d,yI ps] (.tup [ints (kJ g ps).1,int (kJ g ps).2]):=by
 have J:=D5 g E ps K
 have L:=FV g E.lex ps K
 have H:vN g ps=0->(xM g.lex ps).length<2^40:=by
  intro h;unfold vN at h;repeat' split at h
  all_goals first | omega | skip
 have M:=λh=>OI g.inv (by have:=E.inv;omega) g.rules E.rules.1 E.rules.2 (xM g.lex ps) (H h)
 have G:=Ws g.inv g.rules (xM g.lex ps)
 unfold kJ
 generalize vN g ps=R at J M H ⊢
 refine zn mixed Tryz.func170 rfl c_170 ?_
 simp+decide[Tryz.f170,int,Lang.d,yI]
 refine zg J ?_
 by_cases O:R=0
 .subst O
  have M:=M rfl;have H:=H rfl;generalize vM g.inv g.rules (xM g.lex ps)=v at M G ⊢;simp+decide[int];refine scp L ?_
  simp+decide[ints];refine scp M ?_
  by_cases Q:v.length=0
  .simp+decide[ints,List.length_eq_zero_iff.mp Q]
  .have F:v≠[]:=λh=>Q (by rw[h];rfl)
   simp+decide[ints,Q,F]
 .simp+decide[int,ints,O]
theorem OM(g:Lang)(H:LangOk g)(w:List Int)(G:w.length<2^40)(ps:List Prt)(F:ps.length<2^20):zj Tryz.prog 120 [g.d,ints w,yI ps] (.bool (decide ((kJ g ps).2=0/\(kJ g ps).1=w))):=by
 have E:=OL g H ps F
 have K:=NU (kJ g ps).1 w (by omega)
 generalize kJ g ps=q at E K ⊢
 obtain⟨v,e⟩:=q
 refine zn mixed Tryz.func120 rfl c_120 ?_
 simp+decide[Tryz.f120,int,Lang.d,yI]
 refine zg E ?_
 by_cases J:e=0
 .subst J
  simp+decide[int,ints];refine zg K ?_
  simp+decide
 .simp+decide[int,ints,J]
def qV(l:List Ent):Nat->Int->List Int
 |0,_=>[]
 |f+1,id=>if (zL l id).2=true then id::(if (zL l id).1.main=0 then [] else qV l f (zL l id).1.main) else []
theorem ON{l:List Ent}{id:Int}(h:(zL l id).2=true):(zL l id).1.id=id:=by
 unfold zL at h ⊢
 cases H:l.find? (·.id=id) with
 |none=>rw[H] at h;cases h
 |some e=>have:=List.find?_some H;simpa using this
theorem OO(l:List Ent)(id:Int)(J:l.length<2^40):zj Tryz.prog 109 [zh l,int id] (ints (qV l (l.length+1) id)):=by
 refine zn mixed Tryz.func109 rfl c_109 ?_
 simp+decide[Tryz.f109,int,ints]
 refine zg (Wa l id (by omega)) ?_
 simp+decide[int]
 refine zm mixed (λx:List Int×Int=>{n:=42,next:=2,slots:=[(0,.d (zh l)),(5,.ar 1),(6,.d (int (yF l x.2)))],own:=[(1,.arr 3 1 (x.1.map λn=>[int n]))],moved:=[1]})
  (λx=>x.1++qV l (l.length+1-x.1.length) x.2=qV l (l.length+1) id/\x.1.length<=l.length+1) (λx=>l.length+1-x.1.length) ([],id) (by simp) (by simp+decide[int]) ?_
 rintro⟨out,x⟩ ⟨L,M⟩
 simp only at L M
 have O:yF l x<0->(zL l x).2=false:=by
  intro h;rcases wF l x with⟨_,h2⟩ | ⟨j,Q,T,_⟩
  .rw[h2]
  .omega
 by_cases G:yF l x<0
 .have V:¬0<=yF l x:=by omega
  have X:qV l (l.length+1) id=out:=by
   rw[<-L];have:qV l (l.length+1-out.length) x=[]:=by
    cases l.length+1-out.length with
    |zero=>rfl
    |succ f=>unfold qV;rw[if_neg (by rw[O G];decide)]
   rw[this,List.append_nil]
  rw[X];simp+decide[int,V]
 have V:0<=yF l x:=by omega
 by_cases F:out.length<=l.length
 case neg=>
  have:out.length=l.length+1:=by omega
  have X:qV l (l.length+1) id=out:=by
   rw[<-L,this,Nat.sub_self];exact List.append_nil _
  rw[X];have H:¬(out.length:Int)<=l.length:=by omega
  simp+decide[int,V,zh,H]
 rcases wF l x with⟨T,_⟩ | ⟨j,Q,T,h2⟩
 .exact absurd T (by omega)
 have hid:l[j].id=x:=by have:=ON (l:=l) (id:=x) (by rw[h2]);rw[h2] at this;exact this
 obtain⟨e,ee⟩:∃ e,l[j]=e:=⟨_,rfl⟩
 have e1:l[j]?=some e:=by rw[List.getElem?_eq_getElem Q,ee]
 rw[ee] at hid h2
 have H:(out.length:Int)<=l.length:=by omega
 have E:(j:Int)<l.length:=by omega
 have hs:qV l (l.length+1-out.length) x=x::(if e.main=0 then [] else qV l (l.length+1-(out.length+1)) e.main):=by
  have:l.length+1-out.length=(l.length+1-(out.length+1))+1:=by omega
  rw[this];conv=>lhs;unfold qV
  rw[if_pos (by rw[h2]),h2]
 rw[hs] at L
 have K:=Wa l e.main (by omega)
 by_cases Y:e.main=0
 .rw[if_pos Y] at L
  rw[<-L];simp+decide[int,ints,zh,H,T,Q,E,ee,hid,Y,Ent.row];exact⟨by omega,by unfold maxLen;omega⟩
 .rw[if_neg Y] at L
  simp+decide[int,ints,zh,H,T,Q,E,ee,hid,Y,Ent.row];refine⟨by omega,by unfold maxLen;omega,zg K ?_⟩
  simp+decide[int];exact⟨out++[x],e.main,⟨by rw[List.length_append,List.append_assoc];exact L,by simp;omega⟩,by simp;omega,rfl,by simp⟩
structure NetL(n:Nett):Prop where
 lo:1<=n.states
 hi:n.states<=3
 steps:∀ s∈n.steps,(0<=s.src/\s.src<n.states)/\(0<=s.dst/\s.dst<n.states)/\1<=s.cls
 final:∀ q∈n.final,0<=q/\q<n.states
 few:n.steps.length<2^40
 few2:n.final.length<2^40
theorem NetL.ok{n:Nett}(h:NetL n):Wj n:=by
 refine⟨λs hs=>?_,λq hq=>?_,h.few,h.few2⟩
 .have:=h.steps s hs;have:=h.hi;omega
 .have:=h.final q hq;have:=h.hi;omega
def OP(m:Nat)(c:Int)(out:Nat)(s:Stp):Nat:=if X0 m s.src=true/\(c=0\/s.cls=c) then jS out s.dst else out
def OQ(l:List Stp)(m:Nat)(c:Int):Nat:=l.foldl (OP m c) 0
def D6(S a b:Nat):Bool:=(List.range S).any λq=>a.testBit q&&b.testBit q
structure LangL(g:Lang):Prop extends LangOk g where
 light:NetL g.net
structure RuleL(r:Rule):Prop extends RuleOk r where
 once:r.src.Nodup
def OR(w:List Int):Prop:=∀ x∈w,x≠0
structure LangR(g:Lang):Prop extends LangL g where
 rulesL:∀ r∈g.rules,RuleL r
 nz:∀ e∈g.lex,∀ w∈e.forms,OR w
theorem D7(a b:List Int)(L:a.length<2^62)(M:b.length<2^62):zj Tryz.prog 84 [ints a,ints b] (.bool (decide (a=b))):=by
 refine zn mixed Tryz.func84 rfl c_84 ?_
 by_cases O:a.length=b.length
 case neg=>
  have:¬a=b:=λh=>O (by rw[h])
  have J:¬(a.length:Int)=b.length:=by omega
  simp+decide[Tryz.f84,ints,J,this]
 have J:(a.length:Int)=b.length:=by omega
 simp+decide[Tryz.f84,ints,O]
 refine zm mixed (λk:Nat=>{n:=26,next:=0,slots:=[(0,.d (ints a)),(1,.d (ints b)),(12,.d (int b.length)),(13,.d (int k))],own:=[],moved:=[]})
  (λk=>k<=a.length/\a.take k=b.take k) (λk=>a.length-k) 0 (by simp) (by simp+decide[int,ints]) ?_
 intro k ⟨Q,T⟩
 by_cases H:k<a.length
 case neg=>
  have:k=a.length:=by omega
  subst this;rw[List.take_length,O,List.take_length] at T;subst T;simp+decide[int,ints]
 have G:(k:Int)<a.length:=by omega
 have E:k<b.length:=by omega
 have F:(k:Int)<b.length:=by omega
 obtain⟨x,ex⟩:∃ x,a[k]=x:=⟨_,rfl⟩
 obtain⟨y,ey⟩:∃ y,b[k]=y:=⟨_,rfl⟩
 have ex1:a[k]?=some x:=by rw[List.getElem?_eq_getElem H,ex]
 have ey1:b[k]?=some y:=by rw[List.getElem?_eq_getElem E,ey]
 by_cases K:x=y
 .subst K
  simp+decide[int,ints,H,G,E,F,ex,ey];exact⟨⟨by omega,by omega⟩,k+1,⟨H,by rw[yr H,yr E,T,ex,ey]⟩,by omega,by omega⟩
 .have:¬a=b:=by
   intro h;subst h;exact K (by rw[<-ex,<-ey])
  simp+decide[int,ints,H,G,E,F,ex,ey,K,this]
def X1(g:Lang)(w:List Int)(ps:List Prt):Bool:=decide ((kJ g ps).2=0/\(kJ g ps).1=w)
end Go.V
namespace Go.V
open Go Go.Proofs Go.RowKit Go.WideShapes
mutual
def Cap(M:Nat):D->Prop
 |.str b=>b.size<=M
 |.sl l=>l.length<=M/\uF M l
 |_=>True
def uF(M:Nat):List (List D)->Prop
 | []=>True
 |r::rs=>Caps M r/\uF M rs
def Caps(M:Nat):List D->Prop
 | []=>True
 |d::ds=>Cap M d/\Caps M ds
end
def qI(M:Nat):D->Prop
 |.agg l=>Caps M l
 |d=>Cap M d
theorem OS{M:Nat}{d:D}(h:Cap M d):(∀ l,d≠.agg l)->qI M d:=by
 intro H
 cases d <;> first | exact h | exact absurd rfl (H _)
theorem Caps.app{M:Nat}:∀ {a b:List D},Caps M a->Caps M b->Caps M (a++b)
 | [],b,_,h=>h
 |d::a,b,h,H=>by
  simp only[Caps,List.cons_append] at h ⊢;exact⟨h.1,Caps.app h.2 H⟩
theorem D8{M:Nat}:∀ {l:List (List D)},(∀ i (h:i<l.length),Caps M l[i])->uF M l
 | [],_=>by simp[uF]
 |r::rs,h=>by
  simp only[uF];exact⟨h 0 (by simp),D8 λi hi=>h (i+1) (by simp;omega)⟩
structure BulkFn{H:Type}(bulk:DataW H->Nat):Prop where
 str:∀ bytes,bytes.length<=bulk (.lit (.string bytes))
 sl:∀ es rest,es.length<=bulk (.slice es rest)
 el:∀ es rest e,e∈es->bulk e<=bulk (.slice es rest)
 part:∀ ps p,p∈ps->bulk p<=bulk (.agg ps)
section
variable {H:Type} {enc:TypeId×Value->H} {P:Program} {w:World} {base:Nat} {spare:Nat->Bool} {held:Bool} {bulk:DataW H->Nat}
theorem D9{g:Nat->Option (List Sh)}{m:Nat}{cs:List Value}{M:Nat}
  (Q:∀ (f:Field) (l:List Sh),g f.type=some l->∀ x,DataW.trod enc P w base spare held m f.type ((cs.drop f.offset).take (P.cellsOf f.type))=some x->bulk x.1<=M->∃ ds,zO ds l/\Caps M ds/\zc w Ez ds ((cs.drop f.offset).take (P.cellsOf f.type))) :
  ∀ (fs:List Field) (off:Nat) (shs:List Sh),YW g P fs off=some shs->off+shs.length=cs.length ->
   (∀ f∈fs,∃ x,DataW.trod enc P w base spare held m f.type ((cs.drop f.offset).take (P.cellsOf f.type))=some x/\bulk x.1<=M)->∃ ds,zO ds shs/\Caps M ds/\zc w Ez ds (cs.drop off)
 | [],off,shs,h,T,_=>by
  simp only[YW,Option.some.injEq] at h;subst h;simp at T
  exact⟨[],by simp[zO],by simp[Caps],by simp[zc,List.drop_eq_nil_of_le,T]⟩
 |f::r,off,shs,h,T,V=>by
  simp only[YW] at h;split at h
  .rename_i ho
   split at h
   .rename_i l E
    split at h
    .rename_i hlen
     split at h
     .rename_i m' X
      cases h;obtain⟨x,Y,K⟩:=V f (by simp)
      obtain⟨ds,J,L,O⟩:=Q f l E x Y K;obtain⟨ds',H,G,F⟩:=D9 Q r (off+l.length) m' X (by simp at T;omega) λf' hf'=>V f' (by simp[hf'])
      refine⟨ds++ds',J.app H,L.app G,?_⟩
      have e:cs.drop off=(cs.drop off).take (P.cellsOf f.type)++cs.drop (off+l.length):=by
       rw[hlen,<-List.drop_drop,List.take_append_drop]
      rw[e];subst ho;exact O.app F
     .cases h
    .cases h
   .cases h
  .cases h
theorem Wt(S:BulkFn bulk){M:Nat}:∀ (fuel n t:Nat) (shs:List Sh) (cs:List Value) (x:DataW H×List MemPlace),shapes P n t=some shs->DataW.trod enc P w base spare held fuel t cs=some x->bulk x.1<=M ->
  ∃ ds,zO ds shs/\Caps M ds/\zc w Ez ds cs
 |0,_,_,_,_,_,_,h,_=>by simp[DataW.trod] at h
 |fuel+1,n,t,shs,cs,x,hs,h,W=>by
  cases n with
  |zero=>simp[shapes] at hs
  |succ n=>
  simp only[shapes] at hs;split at hs
  .rename_i k ht
   cases hs;obtain⟨m,rfl,_,hw⟩:=DataW.trod_int ht h;exact⟨[.int k m],by simp[zO,yz,hw],by simp[Caps,Cap],by simp only[zc,R];exact⟨_,_,rfl,rfl,rfl,rfl⟩⟩
  .rename_i ht
   cases hs;obtain⟨b,rfl,_⟩:=DataW.trod_bool ht h;exact⟨[.bool b],by simp[zO,yz],by simp[Caps,Cap],by simp only[zc,R];exact⟨_,_,rfl,rfl,rfl,rfl⟩⟩
  .rename_i ht
   cases hs;obtain⟨s,rfl,rfl,hw⟩:=DataW.trod_string ht h;have Q:=S.str s.data.toList;have e0:s.data.toList.length=s.size:=by rw[Array.length_toList];rfl
   exact⟨[.str s],by simp[zO,yz,hw],by simp only[Caps,Cap,and_true];simp only at W;omega,by simp only[zc,R];exact⟨_,_,rfl,rfl,rfl,rfl⟩⟩
  .rename_i e ht
   split at hs
   .rename_i l hl
    split at hs
    .rename_i hlen
     cases hs;rcases DataW.trod_slice ht h with⟨rfl,_⟩ | ⟨a,len,cap,elems,rest,m,hm,rfl,rfl,_,C,Y,I,K,_⟩
     .exact⟨[.sl []],by simp[zO,yz,jR],by simp[Caps,Cap,uF],by simp only[zc,R];exact⟨_,_,rfl,rfl,⟨none,0,rfl,by simp,by simp,λ_=>rfl,λh=>absurd rfl h⟩,rfl⟩⟩
     .cases hm
      have cellf:∀ i,i<len->∃ cs' x',w.cells? base (a.add (i*P.cellsOf e)) (P.cellsOf e)=some cs'/\DataW.trod enc P w base spare held fuel e cs'=some x'/\bulk x'.1<=M:=by
       intro i hi;have h1:=K i hi;have h2:elems[i]?=some (elems[i]'(by omega)):=List.getElem?_eq_getElem (by omega)
       rw[h2,Option.bind_eq_some_iff] at h1;obtain⟨cs',J,L⟩:=h1;exact⟨cs',_,J,L,Nat.le_trans (S.el _ _ _ (List.mem_map.mpr ⟨_,List.getElem_mem _,rfl⟩)) W⟩
      have E:0<len->a.spot=none/\a.block<w.heap.size:=by
       intro hp;obtain⟨cs',_,J,_,_⟩:=cellf 0 hp;obtain⟨_,T,G⟩:=World.cells?_some J;have c0:=G 0 (by omega)
       have:cs'[0]?=some (cs'[0]'(by omega)):=List.getElem?_eq_getElem (by omega)
       rw[this] at c0;exact⟨by simpa[Addr.add] using World.cell?_spot c0,by simpa[Addr.add] using cell_lt c0⟩
      have each:∀ i,i<len->∃ ds,(zO ds l/\Caps M ds)/\zM w Ez a.block ds (a.off+i*P.cellsOf e):=by
       intro i hi;obtain⟨q3,q4⟩:=E (by omega)
       obtain⟨cs',x',J,L,O⟩:=cellf i hi;obtain⟨ds,hf,Z,hr⟩:=Wt S fuel n e l cs' _ hl L O;obtain⟨_,T,G⟩:=World.cells?_some J;refine⟨ds,⟨hf,Z⟩,FC hr λj hj=>?_⟩
       have:=G j (by rw[hr.len] at hj;omega)
       rw[<-this];obtain⟨ab,ao,asp⟩:=a;subst q3;rw[add_plain,add_plain]
      obtain⟨rows,V,F⟩:=FH len each;have A:=S.sl (elems.map (·.1)) (rest.map (·.1));rw[List.length_map] at A;refine⟨[.sl rows],by simp[zO,yz,V,FG λi hi=>(F i hi).1.1];omega,by simp only[Caps,Cap,and_true];exact⟨by simp only at W;omega,D8 λi hi=>(F i hi).1.2⟩,?_⟩
      simp only[zc,R];refine⟨_,_,rfl,rfl,⟨some a,cap,by rw[V],by omega,Y,λh=>by simp at h,λX=>?_⟩,rfl⟩
      have h0:0<rows.length:=List.length_pos_iff.2 X
      obtain⟨q1,q2⟩:=F 0 h0;obtain⟨q3,q4⟩:=E (by omega)
      have Q:rowLen rows=P.cellsOf e:=by
       cases hr:rows with
       |nil=>exact absurd hr X
       |cons r rs => 
        subst hr;simp only[rowLen];have:=q1.1.len
        simp at this
        omega
      refine⟨a.block,a.off,?_,λh=>h,q4,?_⟩
      .obtain⟨ab,ao,asp⟩:=a
       subst q3;rfl
      .rw[Q]
       exact FD λi hi=>⟨by rw[(F i hi).1.1.len];exact hlen.1,(F i hi).2⟩
    .cases hs
   .cases hs
  .rename_i fs ht
   split at hs
   .rename_i l hl
    split at hs
    .rename_i hlen
     cases hs;obtain⟨xs,m,hm,B,T,N,hx⟩:=DataW.trod_struct ht h;cases hm;have:=D9 (bulk:=bulk) (M:=M) (g:=shapes P n) (m:=fuel) (cs:=cs) (P:=P) (w:=w) (enc:=enc) (base:=base) (spare:=spare) (held:=held) (λf l' hf x hx O=>Wt S fuel n f.type l' _ x hf hx O) fs.toList 0 shs hl (by omega) ?_
     .simpa using this
     .intro f hf
      obtain⟨i,hi,rfl⟩:=List.getElem_of_mem hf;have h1:=hx i fs[i] (by simp at hi;simp[hi])
      rw[List.getElem?_eq_getElem (by simp at hi;omega)] at h1
      refine⟨_,by simpa using h1,Nat.le_trans (S.part _ _ (List.mem_map.mpr ⟨_,List.getElem_mem _,rfl⟩)) (by rw[B] at W;exact W)⟩
    .cases hs
   .cases hs
  .cases hs
theorem OT(K:BulkFn bulk){M:Nat}{n t:Nat}{v:Value}{d:DataW H}{ps:List MemPlace}{r:Reach}{b0:Nat}(hs:(shapes P n t).isSome=true)(J:Value.okWide P w r b0 t v)(h:DataW.Trod enc P w base spare held t v d ps)(L:bulk d<=M):
  ∃ x,QV P n t x/\qI M x/\R w Ez x v:=by
 obtain⟨fuel,O⟩:=h
 cases Q:shapes P n t with
 |none=>simp[Q] at hs
 |some shs=>
 obtain⟨ds,T,V,h2⟩:=Wt K fuel n t shs _ _ Q O L
 unfold QV
 cases n with
 |zero=>simp[shapes] at Q
 |succ n=>
 have G:=Q
 simp only[shapes] at Q
 have scalar:∀ s,shs=[s]->v.cells = #[v]->∃ x,(yz x s/\qI M x)/\R w Ez x v:=by
  intro s e E;subst e;rw[E] at h2;cases ds with
  |nil=>simp[zO] at T
  |cons d ds=>
   simp only[zc] at h2;obtain⟨u,us,e,_,X,_⟩:=h2;simp only[zO] at T;obtain⟨s',r',e',F,_⟩:=T;cases e'
   simp at e
   obtain⟨rfl,rfl⟩:=e;simp only[Caps] at V;exact⟨d,⟨F,OS V.1 (by intro l e;subst e;simp[yz] at F)⟩,X⟩
 split at Q
 .rename_i k Y
  cases Q;obtain⟨m,rfl⟩:=okWide_int Y J;obtain⟨x,Z⟩:=scalar _ rfl rfl;exact⟨x,by rw[Y];exact⟨_,G,Z.1.1⟩,Z.1.2,Z.2⟩
 .rename_i Y
  cases Q;obtain⟨m,rfl⟩:=okWide_bool Y J;obtain⟨x,Z⟩:=scalar _ rfl rfl;exact⟨x,by rw[Y];exact⟨_,G,Z.1.1⟩,Z.1.2,Z.2⟩
 .rename_i Y
  cases Q;obtain⟨m,rfl⟩:=okWide_string Y J;obtain⟨x,Z⟩:=scalar _ rfl rfl;exact⟨x,by rw[Y];exact⟨_,G,Z.1.1⟩,Z.1.2,Z.2⟩
 .rename_i e Y
  split at Q
  .split at Q
   .cases Q
    obtain⟨a,len,cap,rfl⟩:=okWide_slice Y J;obtain⟨x,Z⟩:=scalar _ rfl rfl;exact⟨x,by rw[Y];exact⟨_,G,Z.1.1⟩,Z.1.2,Z.2⟩
   .cases Q
  .cases Q
 .rename_i fs Y
  obtain⟨cs,rfl,_⟩:=okWide_struct Y J;refine⟨.agg ds,by rw[Y];exact⟨ds,shs,rfl,G,T⟩,by simp only[qI];exact V,?_⟩
  simp only[R];exact⟨cs.toList,by simp,h2⟩
 .cases Q
theorem Da(O:BulkFn bulk){M:Nat}{n:Nat}{r:Reach}{b0:Nat}:∀ {ts:List Nat} {vs:List Value} {ds:List (DataW H)} {ps:List MemPlace},(∀ t∈ts,(shapes P n t).isSome=true) ->
  (∀ (j:Nat) (t:Nat) (v:Value),ts[j]?=some t->vs[j]?=some v->Value.okWide P w r b0 t v)->DataW.TrodAll enc P w base spare held ts vs ds ps->(∀ d∈ds,bulk d<=M)->∃ xs,ZK P n ts xs/\(∀ x∈xs,qI M x)/\zt w Ez xs vs
 | [],vs,ds,ps,_,_,h,_=>by
  cases vs with
  |nil=>exact⟨[],by simp[ZK],by simp,by simp[zt]⟩
  |cons v vs=>cases ds <;> simp[DataW.TrodAll] at h
 |t::ts,vs,ds,ps,hs,Q,h,T=>by
  cases vs with
  |nil=>cases ds <;> simp[DataW.TrodAll] at h
  |cons v vs=>
   cases ds with
   |nil=>simp[DataW.TrodAll] at h
   |cons d ds=>
    simp only[DataW.TrodAll] at h;obtain⟨p,q,V,h2,_⟩:=h;obtain⟨x,G,F,E⟩:=OT O (hs t (by simp)) (Q 0 t v rfl rfl) V (T d (by simp))
    obtain⟨xs,K,J,L⟩:=Da O (ts:=ts) (λt X=>hs t (by simp[X])) (λj t v h Y=>Q (j+1) t v (by simpa using h) (by simpa using Y)) h2 (λd Z=>T d (by simp[Z]))
    exact⟨x::xs,by simp only[ZK];exact⟨x,xs,rfl,G,K⟩,by intro z A;rcases List.mem_cons.mp A with e | e;rw[e];exact F;exact J z e,by simp only[zt];exact⟨v,vs,rfl,E,L⟩⟩
end
end Go.V
namespace Go.V
open Go Go.Proofs Go.Lib
def zp(s:ByteArray)(k:Nat):Nat:=(s.data.toList.getD k 0).toNat
theorem uG(s:ByteArray)(k:Nat):byteAt s (k:Int)=(zp s k:Int):=by simp[byteAt,zp]
theorem wrap_u8(n:Int):IntKind.wrap .u8 n=n%256:=by
 simp[IntKind.wrap,IntKind.bits,IntKind.signed]
theorem wG{n:Int}{m:Nat}(h:n=(m:Int)):UInt8.ofNat (IntKind.wrap .u8 n).toNat=UInt8.ofNat m:=by
 subst h
 apply UInt8.toNat_inj.1
 rw[wrap_u8]
 simp only[UInt8.toNat_ofNat']
 omega
theorem wrap_i64{n:Int}(h:I64 n):IntKind.wrap .i64 n=n:=by
 obtain⟨H,h2⟩:=h
 simp[IntKind.wrap,IntKind.bits,IntKind.signed]
 split <;> omega
theorem Db(s:ByteArray)(k:Nat):IntKind.wrap .i64 (zp s k:Int)=(zp s k:Int):=by
 have:zp s k<256:=UInt8.toNat_lt _
 exact wrap_i64 ⟨by omega,by omega⟩
theorem OU(p:Nat):zj Tryz.prog 257 [int p] (.bool (decide (jK p))):=by
 refine zn mixed Tryz.func257 rfl c_257 ?_
 by_cases H:(p:Int)<=1114111
 .by_cases h2:(p:Int)<55296
  .have:jK p:=⟨by omega,by omega⟩
   simp+decide[Tryz.f257,int,H,h2,this]
  .have G:jK p↔(57343:Int)<p:=⟨λh=>by have:=h.2;omega,λh=>⟨by omega,by omega⟩⟩
   simp+decide[Tryz.f257,int,H,h2,G]
 .have:¬jK p:=λh=>H (by have:=h.1;omega)
  simp+decide[Tryz.f257,int,H,this]
def encS(p:Nat):ByteArray:=⟨((encR p).map UInt8.ofNat).toArray⟩
theorem OV(p:Nat)(E:p<2^40):zj Tryz.prog 258 [int p] (.str (encS p)):=by
 refine zn mixed Tryz.func258 rfl c_258 ?_
 have t1:(p:Int).tmod 64=((p%64:Nat):Int):=rfl
 have t2:((p:Int)/64).tmod 64=((p/64%64:Nat):Int):=by rw[show(p:Int)/64=((p/64:Nat):Int) by omega];rfl
 have t3:((p:Int)/4096).tmod 64=((p/4096%64:Nat):Int):=by rw[show(p:Int)/4096=((p/4096:Nat):Int) by omega];rfl
 by_cases K:p<128
 .have H:(p:Int)<128:=by omega
  simp+decide[Tryz.f258,int,H,vf,bytesOf];rw[wG (m:=p) (by omega)]
  simp[encS,encR,K]
 have H:¬(p:Int)<128:=by omega
 by_cases h2:p<2048
 .have G:(p:Int)<2048:=by omega
  simp+decide[Tryz.f258,int,H,G,t1,vf,bytesOf,I64];rw[wG (m:=192+p/64) (by omega),wG (m:=128+p%64) (by omega)]
  refine⟨by omega,by omega,by omega,?_⟩
  simp[encS,encR,K,h2]
 have G:¬(p:Int)<2048:=by omega
 by_cases J:p<65536
 .have F:(p:Int)<65536:=by omega
  simp+decide[Tryz.f258,int,H,G,F,t1,t2,vf,bytesOf,I64];rw[wG (m:=224+p/4096) (by omega),wG (m:=128+p/64%64) (by omega),wG (m:=128+p%64) (by omega)]
  refine⟨by omega,by omega,by omega,by omega,by omega,?_⟩
  simp[encS,encR,K,h2,J]
 have F:¬(p:Int)<65536:=by omega
 simp+decide[Tryz.f258,int,H,G,F,t1,t2,t3,vf,bytesOf,I64]
 rw[wG (m:=240+p/262144) (by omega),wG (m:=128+p/4096%64) (by omega),wG (m:=128+p/64%64) (by omega),wG (m:=128+p%64) (by omega)]
 refine⟨by omega,by omega,by omega,by omega,by omega,by omega,by omega,?_⟩
 simp[encS,encR,K,h2,J]
theorem bytes_inj{a b:ByteArray}(h:a.toList=b.toList):a=b:=by
 rw[<-MapKept.bytes_beq,beq_toListBytes,beq_iff_eq];exact h
def j8(s:ByteArray)(at_ p0:Nat):Nat->Nat
 |0=>p0
 |k+1=>j8 s at_ p0 k*64+zp s (at_+(k+1))%64
theorem Df{s:ByteArray}{at_ p0:Nat}(h:p0<256):∀ k,j8 s at_ p0 k<256*64^k
 |0=>by simpa[j8] using h
 |k+1=>by
  have:=Df (s:=s) (at_:=at_) h k
  simp only[j8,Nat.pow_succ];omega
def bytes4(s:ByteArray)(at_:Nat):List Nat:=[zp s at_,zp s (at_+1),zp s (at_+2),zp s (at_+3)]
theorem OW(s:ByteArray)(at_ p0:Nat):∀ n,n<=4->uX p0 ([zp s (at_+1),zp s (at_+2),zp s (at_+3)].take (n-1))=j8 s at_ p0 (n-1)
 |0,_=>rfl
 |1,_=>rfl
 |2,_=>rfl
 |3,_=>rfl
 |4,_=>rfl
theorem Dh:∀ {a b:List UInt8},a.map UInt8.toNat=b.map UInt8.toNat->a=b
 | [],[],_=>rfl
 | [],_::_,h=>by simp at h
 |_::_,[],h=>by simp at h
 |x::a,y::b,h=>by
  simp only[List.map_cons,List.cons.injEq] at h;rw[UInt8.toNat_inj.1 h.1,Dh h.2]
theorem OX{s:ByteArray}{at_ n:Nat}(F:n<=4)(h:at_+n<=s.size):(s.extract at_ (at_+n)).data.toList.map UInt8.toNat=(bytes4 s at_).take n:=by
 have G:s.size=s.data.toList.length:=by rw[Array.length_toList];rfl
 have E:(s.extract at_ (at_+n)).data.toList=(s.data.toList.drop at_).take n:=by
  simp only[ByteArray.data_extract,Array.toList_extract,List.extract_eq_take_drop];congr 1;omega
 rw[E]
 apply List.ext_getElem?
 intro j
 rw[List.getElem?_map,List.getElem?_take,List.getElem?_take]
 by_cases K:j<n
 .rw[if_pos K,if_pos K,List.getElem?_drop,List.getElem?_eq_getElem (by omega)]
  have J:∀ k,(L:k<s.data.toList.length)->(s.data.toList[k]'L).toNat=zp s k:=λk L=>by simp[zp,List.getD,List.getElem?_eq_getElem L]
  have H:j=0\/j=1\/j=2\/j=3:=by omega
  rw[Option.map_some,J];rcases H with rfl | rfl | rfl | rfl <;> rfl
 .rw[if_neg K,if_neg K];rfl
theorem OY(p:Nat):(encS p).data.toList.map UInt8.toNat=(encR p).map (· % 256):=by
 simp only[encS,List.map_map]
 apply List.map_congr_left
 intro b _
 simp
theorem OZ{s:ByteArray}{at_ n p:Nat}(H:n<=4)(h:at_+n<=s.size):encS p=s.extract at_ (at_+n)↔(encR p).map (· % 256)=(bytes4 s at_).take n:=by
 rw[<-OY,<-OX H h]
 constructor
 .intro e;rw[e]
 .intro e
  have:=Dh e
  have e2:(encS p).data=(s.extract at_ (at_+n)).data:=Array.ext' this
  cases G:encS p;cases F:s.extract at_ (at_+n)
  rw[G,F] at e2;simp only at e2;rw[e2]
def wH(s:ByteArray)(at_:Nat):Option (Nat×Nat):=Zi (s.size-at_) (zp s at_) (zp s (at_+1)) (zp s (at_+2)) (zp s (at_+3))
def Z1:Option (Nat×Nat)->D
 |none=>.tup [int (-1),int 0]
 |some r=>.tup [int r.1,int r.2]
theorem P0{s:ByteArray}{at_ p0 n:Nat}(H:qa (zp s at_)=(p0,n))(G:n<=4):wH s at_=if s.size-at_<n then none else if jK (j8 s at_ p0 (n-1))/\(encR (j8 s at_ p0 (n-1))).map (· % 256)=(bytes4 s at_).take n then some (j8 s at_ p0 (n-1),n) else none:=by
 unfold wH Zi
 rw[H]
 simp only
 rw[OW s at_ p0 n G]
 rfl
theorem P2(s:ByteArray)(at_:Nat)(H:at_<s.size)(hs:s.size<=1048576):zj Tryz.prog 226 [.str s,int at_] (Z1 (wH s at_)):=by
 refine zbf Tryz.func226 rfl c_226 ?_
 have Q:zp s at_<256:=UInt8.toNat_lt _
 have e0:=uG s at_
 have w0:=Db s at_
 obtain⟨⟨p0,n⟩,T⟩:∃ r,qa (zp s at_)=r:=⟨_,rfl⟩
 have G:p0<256/\1<=n/\n<=4:=by
  unfold qa at T;split at T
  .cases T;omega
  .split at T
   .cases T;omega
   .split at T <;> cases T <;> omega
 refine ky mixed 4 {n:=65,next:=0,slots:=[(0,.d (.str s)),(1,.d (int at_)),(6,.d (int p0)),(7,.d (int n))],own:=[]} rfl ?_ ?_
 .unfold qa at T
  have q4:(240:Int)<=zp s at_↔240<=zp s at_:=by omega
  have q3:(224:Int)<=zp s at_↔224<=zp s at_:=by omega
  have q2:(192:Int)<=zp s at_↔192<=zp s at_:=by omega
  by_cases c4:240<=zp s at_
  .rw[if_pos c4] at T
   cases T;have ep:(zp s at_:Int)-240=((zp s at_-240:Nat):Int):=by omega
   simp+decide[Tryz.f226,x8,int,H,e0,w0,q4,c4,I64,vf,ep];omega
  rw[if_neg c4] at T;by_cases c3:224<=zp s at_
  .rw[if_pos c3] at T
   cases T;have ep:(zp s at_:Int)-224=((zp s at_-224:Nat):Int):=by omega
   simp+decide[Tryz.f226,x8,int,H,e0,w0,q4,c4,q3,c3,I64,vf,ep];omega
  rw[if_neg c3] at T;by_cases c2:192<=zp s at_
  .rw[if_pos c2] at T
   cases T;have ep:(zp s at_:Int)-192=((zp s at_-192:Nat):Int):=by omega
   simp+decide[Tryz.f226,x8,int,H,e0,w0,q4,c4,q3,c3,q2,c2,I64,vf,ep];omega
  .rw[if_neg c2] at T
   cases T;simp+decide[Tryz.f226,x8,int,H,e0,w0,q4,c4,q3,c3,q2,c2,I64,vf]
 simp only[xB]
 rw[P0 T G.2.2]
 refine ya mixed ?_
 by_cases E:s.size-at_<n
 .have g1:(s.size:Int)<(at_:Int)+n:=by omega
  rw[if_pos E];simp+decide[int,g1,I64,Z1];omega
 have g1:¬(s.size:Int)<(at_:Int)+n:=by omega
 rw[if_neg E]
 simp+decide[int,g1,I64]
 refine⟨by omega,?_⟩
 refine zm mixed (λj:Nat=>{n:=65,next:=0,slots:=[(0,.d (.str s)),(1,.d (int at_)),(6,.d (int (j8 s at_ p0 j))),(7,.d (int n)),(8,.d (int (j+1)))],own:=[]})
  (λj=>j+1<=n) (λj=>n-j) 0 G.2.1 (by simp+decide[int,j8]) ?_
 intro j V
 have J:=Df (s:=s) (at_:=at_) G.1 j
 have F:j8 s at_ p0 j<2^30:=Nat.lt_of_lt_of_le J (Nat.le_trans (Nat.mul_le_mul_left _ (Nat.pow_le_pow_right (by omega) (show j<=3 by omega))) (by decide))
 by_cases O:j+1<n
 .have k1:(j:Int)+1<n:=by omega
  have e1:byteAt s ((at_:Int)+((j:Int)+1))=(zp s (at_+(j+1)):Int):=uG s (at_+(j+1))
  have w1:=Db s (at_+(j+1));have t1:(zp s (at_+(j+1)):Int).tmod 64=((zp s (at_+(j+1))%64:Nat):Int):=rfl
  simp+decide[int,k1,e1,w1,t1,I64,vf];exact⟨by omega,by omega,⟨by omega,by omega⟩,by omega,by omega,j+1,by omega,by omega,by simp only[j8];omega,by omega⟩
 .obtain rfl:n=j+1:=by omega
  rw[Nat.add_sub_cancel];simp+decide[int];generalize j8 s at_ p0 j=q at F ⊢;refine scp (OU q) ?_
  by_cases K:jK q
  case neg=>simp+decide[K,int,Z1]
  simp+decide[K];refine scp (OV q (by omega)) ?_
  have z1:((at_:Int)+((j:Int)+1)).toNat=at_+(j+1):=by omega
  have X:=OZ (s:=s) (at_:=at_) (n:=j+1) (p:=q) (by omega) (by omega)
  by_cases Y:encS q=s.extract at_ (at_+(j+1))
  .simp+decide[int,z1,Y,X.1 Y,Z1,I64]
   omega
  .have L:¬((encR q).map (· % 256)=(bytes4 s at_).take (j+1)):=λh=>Y (X.2 h)
   have M:¬(encS q).toList=(s.extract at_ (at_+(j+1))).toList:=λh=>Y (bytes_inj h)
   simp+decide[int,z1,L,M,Z1,I64];omega
def xe(s:ByteArray):Nat->Nat->Option (List Int)
 |0,_=>some []
 |n+1,pos=>if pos<s.size then (match wH s pos with
  |none=>none
  |some r=>(xe s n (pos+r.2)).map ((r.1:Int) :: ·)) else some []
theorem V0{s:ByteArray}{pos:Nat}(h:pos<s.size):match wH s pos with
  |none=>decodeN (s.size-pos) (zp s pos) (zp s (pos+1)) (zp s (pos+2)) (zp s (pos+3))=(65533,1)
  |some r=>decodeN (s.size-pos) (zp s pos) (zp s (pos+1)) (zp s (pos+2)) (zp s (pos+3))=r/\¬(r.1=65533/\r.2=1)/\r.2<=s.size-pos/\1<=r.2:=
 za6 _ _ _ _ _ (by omega) (UInt8.toNat_lt _) (UInt8.toNat_lt _) (UInt8.toNat_lt _) (UInt8.toNat_lt _)
def j9:Option (List Int)->D
 |none=>.tup [.sl [],.bool false]
 |some l=>.tup [ints l,.bool true]
def X3(s:ByteArray)(x:List Int×Nat×Nat):St:=
 {n:=28,next:=2,slots:=[(0,.d (.str s)),(4,.ar 1),(5,.d (int x.2.1))],own:=[(1,.arr 3 1 (x.1.map λn=>[.int .i64 n]))],moved:=[1]}
theorem Wu(s:ByteArray):∀ (m pos:Nat) (l:List Int),xe s m pos=some l->l.length<=m
 |0,pos,l,h=>by simp[xe] at h;subst h;simp
 |m+1,pos,l,h=>by
  simp only[xe] at h;split at h
  .split at h
   .cases h
   .rw[Option.map_eq_some_iff] at h
    obtain⟨l',H,rfl⟩:=h;have:=Wu s m _ l' H
    simp;omega
  .cases h;simp
theorem V2(s:ByteArray)(hs:s.size<=1048576):zj Tryz.prog 192 [.str s] (j9 (xe s s.size 0)):=by
 refine gA mixed Tryz.func192 rfl c_192 [1,2] ?_
 simp+decide[Tryz.f192]
 refine zm mixed (X3 s) (λx=>x.2.1<=s.size/\s.size<=x.2.1+x.2.2/\x.1.length<=x.2.1/\xe s s.size 0=(xe s x.2.2 x.2.1).map (x.1 ++ ·)) (λx=>x.2.2) ([],0,s.size)
  ⟨by simp,by simp,by simp,by simp⟩ (by simp+decide[X3,int]) ?_
 rintro⟨acc,pos,m⟩ ⟨E,h2,K,J⟩
 simp only at E h2 K J
 by_cases G:pos<s.size
 .have H:(pos:Int)<s.size:=by omega
  obtain⟨m,rfl⟩:∃ k,m=k+1:=⟨m-1,by omega⟩
  simp only[xe,if_pos G] at J;have L:=V0 G;have F:=P2 s pos G hs;simp+decide[X3,int,H];refine zg F ?_
  cases M:wH s pos with
  |none=>
   rw[M] at J;simp+decide[Z1,int,j9,J]
  |some r=>
   rw[M] at J L;simp only at J L
   obtain⟨_,_,g3,g4⟩:=L;have e1:¬r.2=0:=by omega
   simp+decide[Z1,int,e1,I64];refine⟨by omega,by unfold maxLen;omega,⟨by omega,by omega⟩,acc++[(r.1:Int)],pos+r.2,m,⟨by omega,by omega,by simp;omega,by rw[J];cases xe s m (pos+r.2) <;> simp⟩,by omega,?_⟩
   simp+decide[X3,int]
 .have H:¬(pos:Int)<s.size:=by omega
  have O:xe s m pos=some []:=by cases m <;> simp[xe,G]
  rw[O] at J;simp+decide[X3,int,H,J,j9,ints]
end Go.V
namespace Go.V
open Go Go.Proofs
def V3(r:D):Prop:=∃ b,r = .bool b
def V4(r:D):Prop:=∃ e,r=int e
@[simp] theorem zj3(b:Bool):V3 (.bool b):=⟨b,rfl⟩
@[simp] theorem zj4(n:Int):V4 (.int .i64 n):=⟨n,rfl⟩
theorem Di(s:ByteArray)(hs:s.size<=1048576):xy Tryz.prog 142 [.str s] V3:=by
 refine qb mixed Tryz.func142 rfl c_142 ?_
 simp+decide[Tryz.f142]
 refine zm mixed (λk:Nat=>{n:=38,next:=0,slots:=[(0,.d (.str s)),(3,.d (int k))],own:=[]})
  (λk=>k<=s.size) (λk=>s.size-k) 0 (by simp) (by simp+decide[int]) ?_
 intro k F
 by_cases G:k<s.size
 .have H:(k:Int)<s.size:=by omega
  have e1:byteAt s (k:Int)=(zp s k:Int):=uG s k
  by_cases b1:(zp s k:Int)<32
  .simp+decide[int,H,e1,b1]
  .by_cases b2:(zp s k:Int)=127
   .simp+decide[int,H,e1,b2]
   .simp+decide[int,H,e1,b1,b2,I64]
    exact⟨⟨by omega,by omega⟩,k+1,G,by omega,by omega⟩
 .have H:¬(k:Int)<s.size:=by omega
  simp+decide[int,H];refine zg (V2 s hs) ?_
  cases E:xe s s.size 0 with
  |none=>simp+decide[j9]
  |some l=>
   by_cases c1:(1:Int)<=s.size
   .simp+decide[j9,ints,c1]
   .simp+decide[j9,ints,c1]
theorem P3(s:ByteArray)(hs:s.size<=1048576):xy Tryz.prog 145 [.str s] V3:=by
 refine qb mixed Tryz.func145 rfl c_145 ?_
 simp+decide[Tryz.f145]
 refine zm mixed (λk:Nat=>{n:=16,next:=0,slots:=[(0,.d (.str s)),(3,.d (int k))],own:=[]})
  (λk=>k<=s.size) (λk=>s.size-k) 0 (by simp) (by simp+decide[int]) ?_
 intro k F
 by_cases G:k<s.size
 .have H:(k:Int)<s.size:=by omega
  have e1:byteAt s (k:Int)=(zp s k:Int):=uG s k
  by_cases b1:(zp s k:Int)=32
  .simp+decide[int,H,e1,b1]
  .simp+decide[int,H,e1,b1,I64]
   exact⟨⟨by omega,by omega⟩,k+1,G,by omega,by omega⟩
 .have H:¬(k:Int)<s.size:=by omega
  simp+decide[int,H];refine zC.some (by rfl) (Di s hs) ?_
  rintro r ⟨b,rfl⟩
  simp+decide
def wI(b:Nat):Bool:=decide (97<=b)&&decide (b<=122)
def ja(b:Nat):Bool:=wI b || (decide (48<=b)&&decide (b<=57)) || decide (b=45) || decide (b=95)
def nameP(s:ByteArray):Bool:=decide (1<=s.size)&&decide (s.size<=32)&&wI (zp s 0)&&(List.range s.size).all λk=>ja (zp s k)
theorem P4(b:Nat):(97<=b/\b<=122)\/(48<=b/\b<=57)\/b=45\/b=95\/(b<48/\b≠45)\/(57<b/\b<97/\b≠95)\/122<b:=by omega
theorem Dj(s:ByteArray)(hs:s.size<=9223372036854775807):zj Tryz.prog 143 [.str s] (.bool (nameP s)):=by
 refine zn mixed Tryz.func143 rfl c_143 ?_
 simp+decide[Tryz.f143]
 refine zm mixed (λk:Nat=>{n:=59,next:=0,slots:=[(0,.d (.str s)),(3,.d (.int .i64 k))],own:=[]})
  (λk=>k<=s.size/\∀ j,j<k->(ja (zp s j)=true/\(j=0->wI (zp s 0)=true))) (λk=>s.size-k) 0 (by simp) (by simp+decide) ?_
 intro k ⟨M,O⟩
 by_cases F:k<s.size
 .have H:(k:Int)<s.size:=by omega
  have e0:byteAt s (k:Int)=(zp s k:Int):=uG s k
  have good:ja (zp s k)=true->(k=0->wI (zp s k)=true)->∀ j,j<k+1->(ja (zp s j)=true/\(j=0->wI (zp s 0)=true)):=by
   intro Q T j V;rcases Nat.lt_or_ge j k with J | J
   .exact O j J
   .have:j=k:=by omega
    subst this;exact⟨Q,λe=>by subst e;exact T rfl⟩
  have bad:ja (zp s k)=false->nameP s=false:=λQ=>by
   have:(List.range s.size).all (λk=>ja (zp s k))=false:=by rw[List.all_eq_false];exact⟨k,by simpa using F,by simp[Q]⟩
   simp only[nameP,this,Bool.and_false]
  have bad0:k=0->wI (zp s k)=false->nameP s=false:=λT Q=>by
   subst T;simp only[nameP,Q,Bool.and_false,Bool.false_and]
  generalize zp s k=b at e0 good bad bad0;by_cases hs:97<=b/\b<=122
  .obtain⟨c1,c2⟩:=hs
   have q1:(97:Int)<=b:=by omega
   have q2:(b:Int)<=122:=by omega
   have X:wI b=true:=by simp[wI];omega
   simp+decide[H,e0,q1,q2,I64];exact⟨by omega,k+1,⟨by omega,good (by simp[ja,X]) (λ_=>X)⟩,by omega,by omega⟩
  .have X:wI b=false:=by simp[wI];omega
   by_cases G:k=0
   .subst G
    have Q:=bad0 rfl X;have e0':byteAt s 0=(b:Int):=e0
    by_cases q1:(97:Int)<=b
    .have q2:¬(b:Int)<=122:=by omega
     simp+decide[F,e0',q1,q2,Q]
    .simp+decide[F,e0',q1,Q]
   .have L:¬(k:Int)=0:=by omega
    have key:∀ (r:Bool),ja b=r->(decide (97<=(b:Int))&&decide ((b:Int)<=122))=false:=λ_ _=>by simp;omega
    by_cases q1:(97:Int)<=b
    .have q2:¬(b:Int)<=122:=by omega
     have q3:¬(b:Int)=45:=by omega
     have q4:¬(b:Int)=95:=by omega
     have q5:¬(b:Int)<48:=by omega
     have q6:(57:Int)<b:=by omega
     have Q:=bad (by simp[ja,X];omega)
     simp+decide[H,e0,q1,q2,q3,q4,q5,q6,G,Q]
    .rcases P4 b with⟨c1,c2⟩ | ⟨c1,c2⟩ | rfl | rfl | ⟨c1,c2⟩ | ⟨c1,c2,c3⟩ | c1
     .omega
     .have q3:¬(b:Int)=45:=by omega
      have q4:¬(b:Int)=95:=by omega
      have q5:¬(b:Int)<48:=by omega
      have q6:¬(57:Int)<b:=by omega
      simp+decide[H,e0,q1,q3,q4,q5,q6,G,I64];exact⟨by omega,k+1,⟨by omega,good (by simp[ja];omega) (λh=>absurd h G)⟩,by omega,by omega⟩
     .simp+decide[H,e0,G,I64]
      exact⟨by omega,k+1,⟨by omega,good (by decide) (λh=>absurd h G)⟩,by omega,by omega⟩
     .simp+decide[H,e0,G,I64]
      exact⟨by omega,k+1,⟨by omega,good (by decide) (λh=>absurd h G)⟩,by omega,by omega⟩
     .have q3:¬(b:Int)=45:=by omega
      have q4:¬(b:Int)=95:=by omega
      have q5:(b:Int)<48:=by omega
      have Q:=bad (by simp[ja,X];omega)
      simp+decide[H,e0,q1,q3,q4,q5,G,Q]
     .have q3:¬(b:Int)=45:=by omega
      have q4:¬(b:Int)=95:=by omega
      have q5:¬(b:Int)<48:=by omega
      have q6:(57:Int)<b:=by omega
      have Q:=bad (by simp[ja,X];omega)
      simp+decide[H,e0,q1,q3,q4,q5,q6,G,Q]
     .omega
 .have:k=s.size:=by omega
  subst this;have E:(List.range s.size).all (λk=>ja (zp s k))=true:=by
   rw[List.all_eq_true];intro j V;exact(O j (by simpa using V)).1
  by_cases Y:1<=s.size
  .have K:(1:Int)<=s.size:=by omega
   have X:=(O 0 (by omega)).2 rfl
   simp+decide[K,nameP,E,X,Y];omega
  .have K:¬(1:Int)<=s.size:=by omega
   simp+decide[K,nameP,Y]
def Z2(l:List ByteArray):D:=.sl (l.map λs=>[.str s])
theorem P5(l:List ByteArray)(s:ByteArray)(F:l.length<2^40):xy Tryz.prog 146 [Z2 l,.str s] V3:=by
 refine qb mixed Tryz.func146 rfl c_146 ?_
 simp+decide[Tryz.f146,Z2]
 refine zm mixed (λk:Nat=>{n:=18,next:=0,slots:=[(0,.d (Z2 l)),(1,.d (.str s)),(5,.d (int k))],own:=[]})
  (λk=>k<=l.length) (λk=>l.length-k) 0 (by simp) (by simp+decide[int,Z2]) ?_
 intro k E
 by_cases G:k<l.length
 .have H:(k:Int)<l.length:=by omega
  obtain⟨x,ex⟩:∃ x,l[k]=x:=⟨_,rfl⟩;have e1:l[k]?=some x:=by rw[List.getElem?_eq_getElem G,ex]
  by_cases b1:x=s
  .simp+decide[int,Z2,G,H,ex,b1]
  .simp+decide[int,Z2,G,H,ex,I64]
   first | exact λ_=>⟨⟨by omega,by omega⟩,k+1,G,by omega,by omega⟩ | exact⟨⟨by omega,by omega⟩,k+1,G,by omega,by omega⟩
 .have H:¬(k:Int)<l.length:=by omega
  simp+decide[int,Z2,H]
structure OrthC(o:Orth):Prop where
 name:o.name.size<=1048576
 units:∀ u∈o.units,u.graph.size<=1048576/\u.segs.length<=1048576
 letters:∀ l∈o.letters,l.length<=1048576/\∀ s∈l,s.size<=1048576
 few:o.units.length<=1048576/\o.letters.length<=1048576
def Wv(s:ByteArray):Bool:=Lib.validD s.data.toList
end Go.V
namespace Go.V.Doc
open Go Go.Proofs
def badByte(b:Nat):Bool:=decide (b<32) || decide (b=127)
def V5(s:ByteArray):Bool:=(List.range s.size).any λk=>badByte (zp s k)
def textE(s:ByteArray):Int:=if 200<s.size then 5 else if Wv s=true then (if V5 s=true then 3 else 0) else 3
end Go.V.Doc
namespace Go.V
open Go Go.Proofs
structure Dec where
 ref:Rf
 yes:Bool
 pick:List Prt
 deriving DecidableEq
def Dec.row(d:Dec):List D:=[int d.ref.rcd,int d.ref.note,.bool d.yes,y9 d.pick]
def P6(l:List Dec):D:=.sl (l.map Dec.row)
def wJ:List Int->Int
 | []=>0
 |x::l=>if x=0 then wJ l else x
theorem P7{l:List Int}{k:Nat}(h:k<l.length):wJ (l.drop k)=if l[k]=0 then wJ (l.drop (k+1)) else l[k]:=by
 rw[List.drop_eq_getElem_cons h];rfl
def Dk(a b:Rf):Int:=wJ [j5 a.rcd b.rcd,j5 a.note b.note]
end Go.V
namespace Go.V.Doc
open Go
structure Nt where
 id:Int
 tier:Int
 par:Int
 fr:Int
 tO:Int
 rank:Int
 text:ByteArray
 deriving Inhabited,DecidableEq
def Nt.enc(n:Nt):List Value:=[.int .i64 n.id,.int .i64 n.tier,.int .i64 n.par,.int .i64 n.fr,.int .i64 n.tO,.int .i64 n.rank,.string n.text]
def Z3(a b:Nt):Int:=wJ [j5 a.par b.par,j5 a.fr b.fr,j5 a.rank b.rank]
end Go.V.Doc
namespace Go.V.Doc
open Go Go.Proofs
variable [Dr]
def Nt.row(n:Nt):List D:=[int n.id,int n.tier,int n.par,int n.fr,int n.tO,int n.rank,.str n.text]
def zl(l:List Nt):D:=.sl (l.map Nt.row)
theorem jW:RowEnc Nt.enc Nt.row 7 where
 pos:=by decide
 len:=λ_=>rfl
 one:=by intro x v H;simp[Nt.enc] at H;rcases H with rfl | rfl | rfl | rfl | rfl | rfl | rfl <;> rfl
 rlen:=λ_=>rfl
 read:=by
  intro w E x;simp only[Nt.row,Nt.enc,zc,R,int];exact⟨_,_,rfl,rfl,rfl,_,_,rfl,rfl,rfl,_,_,rfl,rfl,rfl,_,_,rfl,rfl,rfl,_,_,rfl,rfl,rfl,_,_,rfl,rfl,rfl,_,_,rfl,rfl,rfl,rfl⟩
 uniq:=by
  intro w E x vs h;simp only[Nt.row,zc,R,int] at h;obtain⟨_,_,rfl,_,rfl,_,_,rfl,_,rfl,_,_,rfl,_,rfl,_,_,rfl,_,rfl,_,_,rfl,_,rfl,_,_,rfl,_,rfl,_,_,rfl,_,rfl,rfl⟩:=h;rfl
theorem Dl(n:Int):zj Tryz.prog 123 [int n] (.bool false):=by
 refine zn mixed Tryz.func123 rfl c_123 ?_
 simp[Tryz.f123,int]
theorem V6(a b:Int):zj Tryz.prog 67 [int a,int b] (int (j5 a b)):=by
 refine zn mixed Tryz.func67 rfl c_67 ?_
 simp[Tryz.f67,int]
 refine zg (Dl a) ?_
 simp
 refine zg (Dl b) ?_
 simp[j5]
 refine⟨λh h'=>by omega,λh=>by omega⟩
theorem P8(l:List Int)(G:l.length<2^62):zj Tryz.prog 166 [ints l] (int (wJ l)):=by
 refine zn mixed Tryz.func166 rfl c_166 ?_
 simp[Tryz.f166,ints]
 refine zm mixed (λk:Nat=>{n:=18,next:=0,slots:=[(0,.d (ints l)),(3,.d (int 0)),(6,.d (ints l)),(7,.d (.int .i64 l.length)),(8,.d (.int .i64 k))],own:=[]})
  (λk=>k<=l.length/\wJ l=wJ (l.drop k)) (λk=>l.length-k) 0 (by simp) (by simp[ints,int]) ?_
 intro k ⟨F,E⟩
 by_cases H:k<l.length
 .have e1:l[k]?=some l[k]:=List.getElem?_eq_getElem H
  rw[P7 H] at E;simp+decide[ints,int,H,I64];refine⟨λh=>?_,λh=>⟨by omega,k+1,⟨H,?_⟩,by omega,by omega⟩⟩
  .rw[E,if_neg h]
  .rw[E,if_pos h]
 .have:k=l.length:=by omega
  subst this;simp+decide[ints,int,E,wJ]
theorem P9(a b:Nt):zj Tryz.prog 113 [.agg a.row,.agg b.row] (int (Z3 a b)):=by
 refine zn mixed Tryz.func113 rfl c_113 ?_
 simp+decide[Tryz.f113,Nt.row,int]
 refine scp (V6 a.par b.par) ?_
 simp+decide[int]
 refine scp (V6 a.fr b.fr) ?_
 simp+decide[int]
 refine scp (V6 a.rank b.rank) ?_
 simp+decide[int,inOrder,rowsOf,rowOf,yP]
 refine scp (P8 [j5 a.par b.par,j5 a.fr b.fr,j5 a.rank b.rank] (by simp)) ?_
 simp+decide[Z3,int]
theorem Pe{blk off size:Nat}{w:World}{E:Nat->Prop}(H:Seen w E)(G:E blk):Go.Proofs.CmpLays Tryz.prog 113 #[] Nt.enc 7 Z3 blk off size w:=by
 let d:Dr:=⟨true⟩
 exact @ER d _ _ _ _ _ _ _ rfl _ _ jW (λx y=>@P9 d x y) _ _ _ _ _ H G
end Go.V.Doc
namespace Go.V.Doc
open Go Go.Proofs
structure Tir where
 name:ByteArray
 kind:Int
 role:Int
 par:Int
 deriving Inhabited,DecidableEq
def Tir.row(t:Tir):List D:=[.str t.name,int t.kind,int t.role,int t.par]
def zw(l:List Tir):D:=.sl (l.map Tir.row)
structure Dc where
 id:Int
 name:ByteArray
 len:Int
 day:Int
 spk:List Int
 tiers:List Tir
 notes:List Nt
 deriving DecidableEq
def Dc.row(d:Dc):List D:=[int d.id,.str d.name,int d.len,int d.day,ints d.spk,zw d.tiers,zl d.notes]
def zq(d:Dc):D:=.agg d.row
theorem take_snoc'{α:Type}{l:List α}{k:Nat}(h:k<l.length):l.take (k+1)=l.take k++[l[k]]:=by rw[List.take_succ_eq_append_getElem h]
theorem Dm{α:Type}{p:α->Prop}{l:List α}{k:Nat}(h:k<l.length)(H:∀ e∈l.take k,p e)(G:p l[k]):∀ e∈l.take (k+1),p e:=by
 rw[take_snoc' h]
 intro e F
 rcases List.mem_append.1 F with F | F
 .exact H e F
 .simp at F;rw[F];exact G
@[simp] theorem zhl{a b:ByteArray}:a.toList=b.toList↔a=b:=by
 rw[<-MapKept.bytes_beq,beq_toListBytes,beq_iff_eq]
structure Dc.fit(d:Dc):Prop where
 notes:d.notes.length<=320
 tiers:d.tiers.length<=20
 spk:d.spk.length<=100
def Nt.zero:Nt:=⟨0,0,0,0,0,0,⟨#[]⟩⟩
def zi(l:List Nt)(id:Int):Nt×Bool:=match l.find? (λn=>decide (n.id=id)) with
 |some n=>(n,true)
 |none=>(Nt.zero,false)
def getD'(r:Nt×Bool):D:=.tup [.agg r.1.row,.bool r.2]
theorem Dn{l:List Nt}{id:Int}{k:Nat}(h:k<l.length)(H:∀ e∈l.take k,e.id≠id)(G:l[k].id=id):zi l id=(l[k],true):=by
 have:l.find? (λn=>decide (n.id=id))=some l[k]:=by
  rw[List.find?_eq_some_iff_append];refine⟨by simpa using G,l.take k,l.drop (k+1),by rw[List.getElem_cons_drop,List.take_append_drop],λe F=>by simpa using H e F⟩
 simp[zi,this]
theorem Dp{l:List Nt}{id:Int}(H:∀ e∈l,e.id≠id):zi l id=(Nt.zero,false):=by
 have:l.find? (λn=>decide (n.id=id))=none:=by rw[List.find?_eq_none];intro e G;simpa using H e G
 simp[zi,this]
abbrev zW(d:Dc):List Sym:=[.d (int d.id),.d (.str d.name),.d (int d.len),.d (int d.day),.d (ints d.spk),.d (zw d.tiers),.d (zl d.notes)]
abbrev noteCells(n:Nt):List Sym:=[.d (int n.id),.d (int n.tier),.d (int n.par),.d (int n.fr),.d (int n.tO),.d (int n.rank),.d (.str n.text)]
theorem ZM(d:Dc)(id:Int)(G:d.notes.length<2^62):zj Tryz.prog 54 [zq d,int id] (getD' (zi d.notes id)):=by
 refine zn mixed Tryz.func54 rfl c_54 ?_
 simp+decide[Tryz.f54,zq,Dc.row,zl,zw,ints,int]
 refine zm mixed (λk:Nat=>{n:=22,next:=2,slots:=[(1,.d (int id)),(2,.bp 0 0),(4,.bp 1 0),(5,.d (.bool false)),(9,.d (zl d.notes)),(10,.d (.int .i64 d.notes.length)),(11,.d (.int .i64 k))],own:=[(0,.box 53 (zW d)),(1,.box 72 (noteCells Nt.zero))]})
  (λk=>k<=d.notes.length/\∀ e∈d.notes.take k,e.id≠id) (λk=>d.notes.length-k) 0 (by simp) (by simp+decide[zl,zw,ints,int,Nt.zero]) ?_
 intro k ⟨F,E⟩
 by_cases H:k<d.notes.length
 .have e1:d.notes[k]?=some d.notes[k]:=List.getElem?_eq_getElem H
  simp+decide[zl,int,Nt.row,Nt.zero,H,I64];refine⟨λh=>?_,λh=>⟨by omega,k+1,⟨H,Dm H E h⟩,by omega,by omega⟩⟩
  simp[getD',Dn H E h,Nt.row,int]
 .have:k=d.notes.length:=by omega
  subst this;rw[List.take_length] at E;simp+decide[zl,int,Dp E,getD',Nt.row,Nt.zero]
theorem jX(d:Dc)(id:Int)(G:d.notes.length<2^62):zj Tryz.prog 36 [zq d,int id] (getD' (zi d.notes id)):=by
 refine zn mixed Tryz.func36 rfl c_36 ?_
 simp+decide[Tryz.f36,zq,Dc.row,zl,zw,ints,int]
 refine zm mixed (λk:Nat=>{n:=28,next:=2,slots:=[(1,.d (int id)),(2,.bp 0 0),(4,.bp 1 0),(5,.d (.bool false)),(6,.d (.int .i64 k))],own:=[(0,.box 53 (zW d)),(1,.box 72 (noteCells Nt.zero))]})
  (λk=>k<=d.notes.length/\∀ e∈d.notes.take k,e.id≠id) (λk=>d.notes.length-k) 0 (by simp) (by simp+decide[zl,zw,ints,int,Nt.zero]) ?_
 intro k ⟨F,E⟩
 by_cases H:k<d.notes.length
 .have e1:d.notes[k]?=some d.notes[k]:=List.getElem?_eq_getElem H
  simp+decide[zl,zw,ints,int,Nt.row,Nt.zero,H,I64];refine⟨λh=>?_,λh=>⟨by omega,k+1,⟨H,Dm H E h⟩,by omega,by omega⟩⟩
  simp[getD',Dn H E h,Nt.row,int]
 .have:k=d.notes.length:=by omega
  subst this;rw[List.take_length] at E;simp+decide[zl,zw,ints,int,Dp E,getD',Nt.row,Nt.zero]
theorem Pg(a b:List Int)(E:b.length<2^62):zj Tryz.prog 62 [ints a,ints b] (.bool (decide (a=b))):=by
 refine zn mixed Tryz.func62 rfl c_62 ?_
 simp[Tryz.f62,ints]
 refine⟨λh e=>h (by rw[e]),λh=>?_⟩
 refine zm mixed (λk:Nat=>{n:=26,next:=0,slots:=[(0,.d (ints a)),(1,.d (ints b)),(5,.d (.int .i64 k))],own:=[]})
  (λk=>k<=a.length/\a.take k=b.take k) (λk=>a.length-k) 0 (by simp) (by simp[ints]) ?_
 intro k ⟨K,J⟩
 have h:a.length=b.length:=by omega
 by_cases G:k<a.length
 .have e1:a[k]?=some a[k]:=List.getElem?_eq_getElem G
  have e2:b[k]?=some (b[k]'(by omega)):=List.getElem?_eq_getElem (by omega)
  have H:k<b.length:=by omega
  simp+decide[ints,G,H,I64];refine⟨λF e=>by subst e;simp at F,λhe=>⟨by omega,k+1,⟨G,?_⟩,by omega,by omega⟩⟩
  rw[take_snoc' G,take_snoc' H,J,he]
 .have:k=a.length:=by omega
  subst this;simp+decide[ints];rw[List.take_length,h,List.take_length] at J;exact J
end Go.V.Doc

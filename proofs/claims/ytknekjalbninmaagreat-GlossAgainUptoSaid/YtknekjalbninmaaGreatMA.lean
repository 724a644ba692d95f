/- Contracts and plain laws of this seat: part MA. It needs no conditions. -/
import Derived.Test.YtknekjalbninmaaGreatTab
import Derived.Test.YtknekjalbninmaaGreatW1
import Derived.Test.YtknekjalbninmaaGreatB1
import Derived.Test.YtknekjalbninmaaGreatU0
import Derived.Lib.TrimU
import GoSem.Core.Value
import Derived.Test.YtknekjalbninmaaGreatS1
set_option maxHeartbeats 32000000
set_option linter.unusedVariables false
set_option linter.unusedSimpArgs false
set_option linter.unusedSectionVars false
set_option maxRecDepth 100000
namespace Go.V
open Go Go.Proofs
instance:Dr:=⟨false⟩
instance:Ov:=⟨false⟩
@[simp] theorem zod(n:Int)(k:Sym->Prop):arith .i64 n k=(I64 n/\k (.d (.int .i64 n))):=rfl
@[simp] theorem zoe(n:Int)(k:Sym->Prop):arith .i32 n k=k (.d (.int .i32 (IntKind.i32.wrap n))):=rfl
@[simp] theorem zoi(n:Int)(k:Sym->Prop):arith .u8 n k=k (.d (.int .u8 (IntKind.u8.wrap n))):=rfl
@[simp] theorem zof(n:Int)(k:Sym->Prop):arith .u32 n k=k (.d (.int .u32 (IntKind.u32.wrap n))):=rfl
@[simp] theorem zog(n:Int)(k:Sym->Prop):arith .u64 n k=k (.d (.int .u64 (IntKind.u64.wrap n))):=rfl
def int(n:Int):D:=.int .i64 n
def ints(l:List Int):D:=.sl (l.map λn=>[.int .i64 n])
structure Phon where
 name:ByteArray
 feat:Int
 deriving DecidableEq
structure Grap where
 graph:ByteArray
 segs:List Int
 deriving DecidableEq
structure Orth where
 name:ByteArray
 units:List Grap
 letters:List (List ByteArray)
 deriving DecidableEq
structure Cls where
 mask:Int
 value:Int
 deriving DecidableEq
structure Rule where
 src:List Int
 dst:List Int
 left:List Cls
 right:List Cls
 beg:Bool
 fin:Bool
 deriving DecidableEq
structure Stp where
 src:Int
 cls:Int
 dst:Int
 deriving DecidableEq
structure Nett where
 states:Int
 steps:List Stp
 final:List Int
 deriving DecidableEq
structure Sens where
 gloss:ByteArray
 defn:ByteArray
 deriving DecidableEq
structure Lnk where
 kind:Int
 dst:Int
 deriving DecidableEq
structure Rf where
 rcd:Int
 note:Int
 deriving DecidableEq
structure Ent where
 id:Int
 form:List Int
 cls:Int
 alts:List (List Int)
 main:Int
 senses:List Sens
 links:List Lnk
 refs:List Rf
 deriving DecidableEq
structure Lang where
 inv:List Phon
 orth:Orth
 rules:List Rule
 net:Nett
 lex:List Ent
 deriving DecidableEq
structure Prt where
 entry:Int
 alt:Int
 sense:Int
 deriving DecidableEq
def Phon.row(p:Phon):List D:=[.str p.name,int p.feat]
def zP(l:List Phon):D:=.sl (l.map Phon.row)
def Grap.row(u:Grap):List D:=[.str u.graph,ints u.segs]
def zS(l:List Grap):D:=.sl (l.map Grap.row)
def wj(l:List (List ByteArray)):D:=.sl (l.map λr=>[.sl (r.map λs=>[.str s])])
def Orth.cells(o:Orth):List D:=[.str o.name,zS o.units,wj o.letters]
def Cls.row(c:Cls):List D:=[int c.mask,int c.value]
def wm(l:List Cls):D:=.sl (l.map Cls.row)
def Rule.row(r:Rule):List D:=[ints r.src,ints r.dst,wm r.left,wm r.right,.bool r.beg,.bool r.fin]
def xo(l:List Rule):D:=.sl (l.map Rule.row)
def Stp.row(s:Stp):List D:=[int s.src,int s.cls,int s.dst]
def stepsD(l:List Stp):D:=.sl (l.map Stp.row)
def Nett.cells(n:Nett):List D:=[int n.states,stepsD n.steps,ints n.final]
def Sens.row(s:Sens):List D:=[.str s.gloss,.str s.defn]
def ye(l:List Sens):D:=.sl (l.map Sens.row)
def Lnk.row(s:Lnk):List D:=[int s.kind,int s.dst]
def x9(l:List Lnk):D:=.sl (l.map Lnk.row)
def Rf.row(s:Rf):List D:=[int s.rcd,int s.note]
def jr(l:List Rf):D:=.sl (l.map Rf.row)
def yG(l:List (List Int)):D:=.sl (l.map λa=>[ints a])
def Ent.row(e:Ent):List D:=[int e.id,ints e.form,int e.cls,yG e.alts,int e.main,ye e.senses,x9 e.links,jr e.refs]
def zj(l:List Ent):D:=.sl (l.map Ent.row)
def Lang.d(g:Lang):D:=.agg [zP g.inv,.str g.orth.name,zS g.orth.units,wj g.orth.letters,xo g.rules,int g.net.states,stepsD g.net.steps,ints g.net.final,zj g.lex]
def Prt.row(p:Prt):List D:=[int p.entry,int p.alt,int p.sense]
def zm(l:List Prt):D:=.sl (l.map Prt.row)
def zZ(a:List Prt):D:=.agg [zm a]
def xN(l:List (List Prt)):D:=.sl (l.map λa=>[zm a])
@[simp ↓] theorem zo3(p:Prop):(true = !true->p)=True:=by simp
@[simp ↓] theorem zo4(p:Prop):(false = !false->p)=True:=by simp
@[simp ↓] theorem zo5(p:Prop):(true = !false->p)=p:=by simp
@[simp ↓] theorem zo6(p:Prop):(false = !true->p)=p:=by simp
@[simp ↓] theorem zo9(p:Prop):(true=false->p)=True:=by simp
@[simp ↓] theorem zpa(p:Prop):(false=true->p)=True:=by simp
@[simp ↓] theorem zpb(p:Prop):(true=true->p)=p:=by simp
@[simp ↓] theorem zpc(p:Prop):(false=false->p)=p:=by simp
theorem take_snoc{α:Type}{l:List α}{k:Nat}(h:k<l.length):l.take (k+1)=l.take k++[l[k]]:=by
 rw[List.take_add_one,List.getElem?_eq_getElem h];rfl
theorem RF(l:List Int)(x:Int)(G:l.length<2^62):zl Tryz.prog 293 [ints l,int x] (.bool (decide (x∈l))):=by
 refine zp mixed Tryz.func293 rfl c_293 ?_
 simp[Tryz.f293,ints,int]
 refine zu mixed (λk:Nat=>{n:=17,next:=0,slots:=[(0,.d (ints l)),(1,.d (int x)),(7,.d (ints l)),(8,.d (.int .i64 l.length)),(9,.d (.int .i64 k))],own:=[]})
  (λk=>k<=l.length/\x∉l.take k) (λk=>l.length-k) 0 (by simp) (by simp[ints,int]) ?_
 intro k ⟨F,E⟩
 by_cases H:k<l.length
 .have e1:l[k]?=some l[k]:=List.getElem?_eq_getElem H
  simp+decide[ints,int,H,I64];refine⟨λh=>?_,λh=>⟨by omega,k+1,⟨H,?_⟩,by omega,by omega⟩⟩
  .rw[<-h];exact List.getElem_mem H
  .rw[take_snoc H,List.mem_append,not_or];exact⟨E,by simpa using λe=>h e.symm⟩
 .have:k=l.length:=by omega
  subst this;simp+decide[ints,int];simpa using E
theorem Cf(a b:List Int)(F:b.length<2^62):zl Tryz.prog 171 [ints a,ints b] (.bool (decide (a=b))):=by
 refine zp mixed Tryz.func171 rfl c_171 ?_
 simp[Tryz.f171,ints]
 refine⟨λh e=>h (by rw[e]),λh=>?_⟩
 refine zu mixed (λk:Nat=>{n:=26,next:=0,slots:=[(0,.d (ints a)),(1,.d (ints b)),(12,.d (.int .i64 a.length)),(13,.d (.int .i64 k))],own:=[]})
  (λk=>k<=a.length/\a.take k=b.take k) (λk=>a.length-k) 0 (by simp) (by simp[ints]) ?_
 intro k ⟨E,K⟩
 have h:a.length=b.length:=by omega
 by_cases G:k<a.length
 .have e1:a[k]?=some a[k]:=List.getElem?_eq_getElem G
  have e2:b[k]?=some (b[k]'(by omega)):=List.getElem?_eq_getElem (by omega)
  have H:k<b.length:=by omega
  simp+decide[ints,G,H,I64];refine⟨λhne e=>hne (by subst e;rfl),λhe=>⟨by omega,k+1,⟨G,?_⟩,by omega,by omega⟩⟩
  rw[take_snoc G,take_snoc H,K,he]
 .have:k=a.length:=by omega
  subst this;simp+decide[ints];rw[List.take_length,h,List.take_length] at K;exact K
def Je:List Int->List Int->Bool
 |a::l,b::m=>if a=b then Je l m else decide (a<b)
 | [],_::_=>true
 |_,[]=>false
def xd(inv:List Phon)(n:Int):Bool:=decide (1<=n)&&decide (n<=inv.length)
theorem U5(inv:List Phon)(n:Int):zl Tryz.prog 197 [.agg [zP inv],int n] (.bool (xd inv n)):=by
 refine zp mixed Tryz.func197 rfl c_197 ?_
 simp[Tryz.f197,zP,int,xd]
 omega
theorem Ci(inv:List Phon)(n:Int):zl Tryz.prog 284 [.agg [zP inv],int n] (.bool (xd inv n)):=by
 refine zp mixed Tryz.func284 rfl c_284 ?_
 simp[Tryz.f284,zP,int,xd]
 omega
theorem Qs(n:Int):zl Tryz.prog 123 [int n] (.bool false):=by
 refine zp mixed Tryz.func123 rfl c_123 ?_
 simp[Tryz.f123,int]
def xO(a b:Int):Int:=if a<b then -1 else if b<a then 1 else 0
theorem gX(a b:Int):zl Tryz.prog 67 [int a,int b] (int (xO a b)):=by
 refine zp mixed Tryz.func67 rfl c_67 ?_
 simp[Tryz.f67,int]
 refine zh (Qs a) ?_
 simp
 refine zh (Qs b) ?_
 simp[xO]
 refine⟨λh h'=>by omega,λh=>by omega⟩
def xe(l:List Ent)(id:Int):Int:=match l.findIdx? (·.id=id) with
 |some k=>k
 |none=>-1
theorem U6{l:List Ent}{id:Int}{k:Nat}(h:k<l.length)(H:∀ e∈l.take k,e.id≠id)(G:l[k].id=id):l.findIdx? (·.id=id)=some k:=by
 rw[List.findIdx?_eq_some_iff_getElem]
 refine⟨h,by simpa using G,λj hj=>?_⟩
 have:=H l[j] (by rw[List.mem_take_iff_getElem];exact⟨j,by omega,rfl⟩)
 simpa using this
theorem U7{l:List Ent}{id:Int}(H:∀ e∈l,e.id≠id):l.findIdx? (·.id=id)=none:=by
 rw[List.findIdx?_eq_none_iff];intro e G;simpa using H e G
theorem uh{α:Type}{p:α->Prop}{l:List α}{k:Nat}(h:k<l.length)(H:∀ e∈l.take k,p e)(G:p l[k]):∀ e∈l.take (k+1),p e:=by
 rw[take_snoc h]
 intro e F
 rcases List.mem_append.1 F with F | F
 .exact H e F
 .simp at F;rw[F];exact G
theorem U8(l:List Ent)(id:Int)(G:l.length<2^62):zl Tryz.prog 110 [zj l,int id] (int (xe l id)):=by
 refine zp mixed Tryz.func110 rfl c_110 ?_
 simp[Tryz.f110,zj,int]
 refine zu mixed (λk:Nat=>{n:=20,next:=0,slots:=[(0,.d (zj l)),(1,.d (int id)),(5,.d (.int .i64 k))],own:=[]})
  (λk=>k<=l.length/\∀ e∈l.take k,e.id≠id) (λk=>l.length-k) 0 (by simp) (by simp[zj,int]) ?_
 intro k ⟨F,E⟩
 by_cases H:k<l.length
 .have e1:l[k]?=some l[k]:=List.getElem?_eq_getElem H
  simp+decide[zj,Ent.row,int,H,I64];refine⟨λh=>?_,λh=>⟨by omega,k+1,⟨H,uh H E h⟩,by omega,by omega⟩⟩
  simp[xe,U6 H E h]
 .have:k=l.length:=by omega
  subst this;simp+decide[zj,int];simp[xe,U7 (by simpa using E)]
theorem U9(l:List Ent)(id:Int)(G:l.length<2^62):zl Tryz.prog 152 [zj l,int id] (int (xe l id)):=by
 refine zp mixed Tryz.func152 rfl c_152 ?_
 simp[Tryz.f152,zj,int]
 refine zu mixed (λk:Nat=>{n:=20,next:=0,slots:=[(0,.d (zj l)),(1,.d (int id)),(5,.d (.int .i64 k))],own:=[]})
  (λk=>k<=l.length/\∀ e∈l.take k,e.id≠id) (λk=>l.length-k) 0 (by simp) (by simp[zj,int]) ?_
 intro k ⟨F,E⟩
 by_cases H:k<l.length
 .have e1:l[k]?=some l[k]:=List.getElem?_eq_getElem H
  simp+decide[zj,Ent.row,int,H,I64];refine⟨λh=>?_,λh=>⟨by omega,k+1,⟨H,uh H E h⟩,by omega,by omega⟩⟩
  simp[xe,U6 H E h]
 .have:k=l.length:=by omega
  subst this;simp+decide[zj,int];simp[xe,U7 (by simpa using E)]
theorem RG(a b:List Prt)(E:b.length<2^62):zl Tryz.prog 242 [zm a,zm b] (.bool (decide (a=b))):=by
 refine zp mixed Tryz.func242 rfl c_242 ?_
 simp[Tryz.f242,zm]
 refine⟨λh e=>h (by rw[e]),λh=>?_⟩
 refine zu mixed (λk:Nat=>{n:=26,next:=0,slots:=[(0,.d (zm a)),(1,.d (zm b)),(12,.d (.int .i64 a.length)),(13,.d (.int .i64 k))],own:=[]})
  (λk=>k<=a.length/\a.take k=b.take k) (λk=>a.length-k) 0 (by simp) (by simp[zm]) ?_
 intro k ⟨K,J⟩
 have h:a.length=b.length:=by omega
 by_cases G:k<a.length
 .have e1:a[k]?=some a[k]:=List.getElem?_eq_getElem G
  have e2:b[k]?=some (b[k]'(by omega)):=List.getElem?_eq_getElem (by omega)
  have H:k<b.length:=by omega
  simp+decide[zm,Prt.row,int,G,H,I64];refine⟨λF e=>by subst e;simp at F,λL M h3=>⟨by omega,k+1,⟨G,?_⟩,by omega,by omega⟩⟩
  have O:a[k]=b[k]:=by
   rcases Q:a[k] with⟨x1,x2,x3⟩;rcases T:b[k] with⟨y1,y2,y3⟩;rw[Q,T] at L M h3;simp only at L M h3
   rw[L,M,h3]
  rw[take_snoc G,take_snoc H,J,O]
 .have:k=a.length:=by omega
  subst this;simp+decide[zm];rw[List.take_length,h,List.take_length] at J;exact J
def gY(inv:List Phon)(n:Int)(c:Cls):Bool:=xd inv n&&(match inv[n.toNat-1]? with
 |some p=>decide (c.value=jE .and .i64 p.feat c.mask)
 |none=>false)
theorem RH(inv:List Phon)(n:Int)(c:Cls)(F:inv.length<2^62):zl Tryz.prog 291 [.agg [zP inv],int n,.agg c.row] (.bool (gY inv n c)):=by
 refine zp mixed Tryz.func291 rfl c_291 ?_
 simp+decide[Tryz.f291,int,Cls.row]
 refine scp (Ci inv n) ?_
 by_cases hs:xd inv n=true
 .have G:=hs
  simp only[xd,Bool.and_eq_true,decide_eq_true_eq] at G;have H:n.toNat-1<inv.length:=by omega
  have e1:inv[n.toNat-1]?=some inv[n.toNat-1]:=List.getElem?_eq_getElem H
  have e2:¬n<1:=by omega
  simp+decide[zP,hs,H,Phon.row,int,I64,gY];omega
 .simp+decide[hs,gY]
def Ent.zero:Ent:=⟨0,[],0,[],0,[],[],[]⟩
def zJ(l:List Ent)(id:Int):Ent×Bool:=match l.find? (·.id=id) with
 |some e=>(e,true)
 |none=>(Ent.zero,false)
theorem RI{l:List Ent}{id:Int}{k:Nat}(h:k<l.length)(H:∀ e∈l.take k,e.id≠id)(G:l[k].id=id):l.find? (·.id=id)=some l[k]:=by
 rw[List.find?_eq_some_iff_getElem]
 refine⟨by simpa using G,k,h,rfl,λj hj=>?_⟩
 have:=H l[j] (by rw[List.mem_take_iff_getElem];exact⟨j,by omega,rfl⟩)
 simpa using this
theorem RJ{l:List Ent}{id:Int}(H:∀ e∈l,e.id≠id):l.find? (·.id=id)=none:=by
 rw[List.find?_eq_none];intro e G;simpa using H e G
theorem RL(l:List Ent)(id:Int)(G:l.length<2^62):zl Tryz.prog 47 [zj l,int id] (.tup [.agg (zJ l id).1.row,.bool (zJ l id).2]):=by
 refine zp mixed Tryz.func47 rfl c_47 ?_
 simp[Tryz.f47,zj,int,Value.oneCell']
 refine zu mixed (λk:Nat=>{n:=25,next:=1,slots:=[(0,.d (zj l)),(1,.d (int id)),(4,.bp 0 0),(8,.d (.int .i64 l.length)),(9,.d (.int .i64 k))],own:=[(0,.box 102 [.d (int 0),.nils,.d (int 0),.nils,.d (int 0),.nils,.nils,.nils])]})
  (λk=>k<=l.length/\∀ e∈l.take k,e.id≠id) (λk=>l.length-k) 0 (by simp) (by simp[zj,int]) ?_
 intro k ⟨F,E⟩
 by_cases H:k<l.length
 .have e1:l[k]?=some l[k]:=List.getElem?_eq_getElem H
  simp+decide[zj,Ent.row,int,H,I64];refine⟨λh=>?_,λh=>⟨by omega,k+1,⟨H,uh H E h⟩,by omega,by omega⟩⟩
  simp[zJ,RI H E h]
 .have:k=l.length:=by omega
  subst this;simp+decide[zj,int];simp[zJ,RJ (by simpa using E),Ent.zero,Ent.row,int,ints,yG,ye,x9,jr]
theorem RN(a b:List Prt)(H:b.length<2^62):zl Tryz.prog 221 [zZ a,zZ b] (.bool (decide (a=b))):=by
 refine zp mixed Tryz.func221 rfl c_221 ?_
 simp[Tryz.f221,zZ]
 refine zh (RG a b H) ?_
 simp
def ZI(l:List Rule):Bool:=l.any λr=>decide (0∈r.dst)
theorem RO{α:Type}{p:α->Bool}{l:List α}{k:Nat}(h:k<l.length)(H:p l[k]=true):l.any p=true:=List.any_eq_true.2 ⟨_,List.getElem_mem h,H⟩
theorem RP(l:List Rule)(G:l.length<2^62)(hs:∀ r∈l,r.dst.length<2^62):zl Tryz.prog 287 [xo l] (.bool (ZI l)):=by
 refine zp mixed Tryz.func287 rfl c_287 ?_
 simp[Tryz.f287,xo]
 refine zu mixed (λk:Nat=>{n:=15,next:=0,slots:=[(5,.d (xo l)),(6,.d (.int .i64 l.length)),(7,.d (.int .i64 k))],own:=[]})
  (λk=>k<=l.length/\∀ r∈l.take k,0∉r.dst) (λk=>l.length-k) 0 (by simp) (by simp[xo]) ?_
 intro k ⟨F,E⟩
 by_cases H:k<l.length
 .have e1:l[k]?=some l[k]:=List.getElem?_eq_getElem H
  simp+decide[xo,Rule.row,H];refine zh (RF l[k].dst 0 (hs _ (List.getElem_mem H))) ?_
  simp+decide[I64];refine⟨λh=>?_,λh=>⟨by omega,k+1,⟨H,uh H E h⟩,by omega,by omega⟩⟩
  exact(RO H (by simpa using h))
 .have:k=l.length:=by omega
  subst this;simp+decide[xo];simp only[List.take_length] at E;simp only[ZI,List.any_eq_false];intro r K;simpa using E r K
def Ent.forms(e:Ent):List (List Int):=e.form::e.alts
def qy(a b:Prt):Bool:=if a.entry=b.entry then (if a.alt=b.alt then decide (a.sense<b.sense) else decide (a.alt<b.alt)) else decide (a.entry<b.entry)
theorem RQ(a b:Prt):zl Tryz.prog 208 [.agg a.row,.agg b.row] (.bool (qy a b)):=by
 refine zp mixed Tryz.func208 rfl c_208 ?_
 simp+decide[Tryz.f208,Prt.row,int,qy]
 exact⟨λh H=>absurd H h,λh=>⟨λh2=>by rw[if_pos h,if_neg h2],λh2=>by rw[if_pos h,if_pos h2]⟩⟩
def yh:List Prt->List Prt->Bool
 |a::l,b::m=>if a=b then yh l m else qy a b
 | [],_::_=>true
 |_,[]=>false
theorem RR{a b:List Prt}{k:Nat}(h:k<a.length)(H:k<b.length):yh (a.drop k) (b.drop k)=if a[k]=b[k] then yh (a.drop (k+1)) (b.drop (k+1)) else qy a[k] b[k]:=by
 rw[List.drop_eq_getElem_cons h,List.drop_eq_getElem_cons H];rfl
theorem Cj{a b:List Prt}{k:Nat}(h:¬(k<a.length/\k<b.length))(H:k<=a.length/\k<=b.length):yh (a.drop k) (b.drop k)=decide (a.length<b.length):=by
 by_cases G:k<b.length
 .have:k=a.length:=by omega
  subst this;rw[List.drop_length,List.drop_eq_getElem_cons G];simp[yh,G]
 .have:k=b.length:=by omega
  subst this;rw[List.drop_length];have:¬a.length<b.length:=by omega
  cases a.drop b.length <;> simp[yh,this]
theorem Cm{a b:Prt}:a=b↔a.entry=b.entry/\a.alt=b.alt/\a.sense=b.sense:=by
 cases a;cases b;simp
theorem RS(a b:List Prt)(K:a.length<2^62)(J:b.length<2^62):zl Tryz.prog 168 [zZ a,zZ b] (.bool (yh a b)):=by
 refine zp mixed Tryz.func168 rfl c_168 ?_
 simp[Tryz.f168,zZ,zm]
 refine zu mixed (λk:Nat=>{n:=49,next:=2,slots:=[(2,.bp 0 0),(3,.bp 1 0),(5,.d (.int .i64 k))],own:=[(1,.box 39 [.d (zm b)]),(0,.box 39 [.d (zm a)])]})
  (λk=>k<=a.length/\k<=b.length/\yh a b=yh (a.drop k) (b.drop k)) (λk=>a.length-k) 0 (by simp) (by simp[zm]) ?_
 intro k ⟨L,F,M⟩
 by_cases G:k<a.length
 .by_cases H:k<b.length
  .have e1:a[k]?=some a[k]:=List.getElem?_eq_getElem G
   have e2:b[k]?=some b[k]:=List.getElem?_eq_getElem H
   rw[RR G H] at M;simp+decide[zm,Prt.row,int,G,H,I64];refine⟨λh=>?_,λO Q T=>⟨by omega,k+1,⟨G,H,?_⟩,by omega,by omega⟩⟩
   .refine scp (RQ a[k] b[k]) ?_
    have E:¬a[k]=b[k]:=λe=>by rw[Cm] at e;obtain⟨q1,q2,q3⟩:=e;simp[q1,q2,q3] at h
    simp+decide[M,if_neg E]
   .rw[M,if_pos (Cm.2 ⟨O,Q,T⟩)]
  .rw[Cj (λh=>H h.2) ⟨L,F⟩] at M
   simp+decide[zm,G,H,M]
 .rw[Cj (λh=>G h.1) ⟨L,F⟩] at M
  simp+decide[zm,G,M]
theorem CB:∀ (a:List Prt),yh a a=false
 | []=>rfl
 |a::l=>by simp[yh,CB l]
theorem yH{α:Type}{l:List α}{k:Nat}(h:k<l.length):l.take (k+1)=l.take k++[l[k]]:=by
 rw[List.take_succ_eq_append_getElem h]
def u32(m:Nat):D:=.int .u32 m
def uR(m:Nat)(q:Int):Bool:=m.testBit q.toNat
def vj(m:Nat)(q:Int):Nat:=m ||| (1 <<< q.toNat)
theorem RU:∀ (m:Fin 8) (q:Fin 3),(decide (jE .and .u32 (Zw .shr .u32 (m.val:Int) (q.val:Int)) 1=1))=m.val.testBit q.val:=by decide +kernel
theorem RV:∀ (m:Fin 8) (q:Fin 3),jE .or .u32 (m.val:Int) (Zw .shl .u32 1 (q.val:Int))=((m.val ||| (1 <<< q.val):Nat):Int):=by decide +kernel
theorem RX:∀ (m:Fin 8) (q:Fin 3),m.val ||| (1 <<< q.val)<8:=by decide +kernel
theorem CG{m:Nat}{q:Int}(H:m<8)(G:0<=q)(F:q<3):(decide (jE .and .u32 (Zw .shr .u32 (m:Int) q) 1=1))=uR m q:=by
 have:=RU ⟨m,H⟩ ⟨q.toNat,by omega⟩
 simp only[show((q.toNat:Nat):Int)=q by omega] at this
 exact this
theorem Ua{m:Nat}{q:Int}(H:m<8)(G:0<=q)(F:q<3):jE .or .u32 (m:Int) (Zw .shl .u32 1 q)=((vj m q:Nat):Int):=by
 have:=RV ⟨m,H⟩ ⟨q.toNat,by omega⟩
 simp only[show((q.toNat:Nat):Int)=q by omega] at this
 exact this
theorem CH{m:Nat}{q:Int}(H:m<8)(G:0<=q)(F:q<3):vj m q<8:=RX ⟨m,H⟩ ⟨q.toNat,by omega⟩
theorem RY(m:Nat)(q:Int)(H:m<8)(G:0<=q)(F:q<3):zl Tryz.prog 265 [u32 m,int q] (.bool (uR m q)):=by
 refine zp mixed Tryz.func265 rfl c_265 ?_
 simp+decide[Tryz.f265,u32,int]
 have E:IntKind.u64.wrap q=q:=by rw[IntKind.wrap_u64];omega
 rw[E]
 exact .inl ⟨G,CG H G F⟩
theorem CJ(m:Nat)(q:Int)(H:m<8)(G:0<=q)(F:q<3):zl Tryz.prog 204 [u32 m,int q] (u32 (vj m q)):=by
 refine zp mixed Tryz.func204 rfl c_204 ?_
 simp+decide[Tryz.f204,u32,int]
 have E:IntKind.u64.wrap q=q:=by rw[IntKind.wrap_u64];omega
 rw[E]
 exact .inl ⟨G,Ua H G F⟩
abbrev Ub(n:Nett)(m:Nat):D:=.fn 264 [.ptr n.cells,.ptr [u32 m]]
theorem RZ(n:Nett)(m:Nat):zl Tryz.prog 235 [.agg n.cells,u32 m] (Ub n m):=by
 refine zp mixed Tryz.func235 rfl c_235 ?_
 simp+decide[Tryz.f235,u32,int,Nett.cells]
def qc(m:Nat)(c:Int)(out:Nat)(s:Stp):Nat:=if uR m s.src=true/\s.cls=c then vj out s.dst else out
def yT(l:List Stp)(m:Nat)(c:Int):Nat:=l.foldl (qc m c) 0
def ZJ(l:List Stp):Prop:=∀ s∈l,(0<=s.src/\s.src<3)/\(0<=s.dst/\s.dst<3)
theorem Jf{m:Nat}{c:Int}:∀ {l:List Stp} {out:Nat},ZJ l->out<8->l.foldl (qc m c) out<8
 | [],out,_,h=>h
 |s::l,out,H,h=>by
  rw[List.foldl_cons];refine Jf (λx hx=>H x (by simp[hx])) ?_
  unfold qc;split
  .have:=(H s (by simp)).2;exact CH h this.1 this.2
  .exact h
theorem Uc{l:List Stp}(h:ZJ l)(m:Nat)(c:Int):yT l m c<8:=Jf h (by omega)
def kD(n:Nett)(m:Nat):List Sym:=[.junk,.junk,.junk,.junk,.junk,.bp 2 0,.junk,.bp 1 0,.junk,.junk,.junk,.d (Ub n m),.junk,.junk,.junk,.junk,.junk,.junk,.junk,.junk,.junk,.junk]
@[simp] theorem zna(n:Nett)(m:Nat):Sym.los 3 (kD n m):=by simp[kD,Sym.los,Sym.lo]
noncomputable def jb(n:Nett)(m:Nat)(c:Int)(out:Nat)(s:LoopState):List (Nat×Obj'):=
 [(0,.raw (.lp #[12] (vI Tryz.f203) (vJ Tryz.f203) s none) (kD n m)),(1,.box 218 [.d (u32 out)]),(2,.box 3 [.d (int c)])]
theorem S0(n:Nett)(m:Nat)(c:Int)(out:Nat)(H:out<8)(s:Stp)(hs:0<=s.dst/\s.dst<3):
  ZF Tryz.prog 0 [.d (.agg s.row)] (jb n m c out .ready) 3 (.d (.bool true)) 3 (jb n m c (if s.cls=c then vj out s.dst else out) .ready) []:=by
 refine J2 (cells:=kD n m) (ps:=#[12]) (aS := vI Tryz.f203) (bd:=vJ Tryz.f203) rfl (by simp) (by simp[kD]) (by omega) (by simp[Sym.los,Sym.lo]) ?_
 have G:=CJ out s.dst H hs.1 hs.2
 by_cases F:s.cls=c
 .rw[if_pos F]
  simp+decide[jb,kD,vI,vJ,jL,Tryz.f203,Stp.row,int,u32,F];refine zh G ?_
  simp+decide[u32]
 .rw[if_neg F]
  simp+decide[jb,kD,vI,vJ,jL,Tryz.f203,Stp.row,int,u32,F]
theorem S4(n:Nett)(m:Nat)(c:Int)(E:ZJ n.steps)(J:m<8)(L:n.steps.length<2^40):
  zI Tryz.prog 264 [.yd 0,.d (.ptr n.cells),.d (.ptr [u32 m])] (jb n m c 0 .ready) 3 (.d (.tup [])) 3 (jb n m c (yT n.steps m c) .ready) []:=by
 refine zI.J6 (xW mixed Tryz.func264 rfl c_264 (by simp[Sym.los,Sym.lo]) ?_)
 simp+decide[Tryz.f264,Nett.cells,stepsD,int,u32]
 refine xn mixed (λk:Nat=>{n:=24,next:=3,base:=3,slots:=[(0,.yd 0),(1,.d (.ptr n.cells)),(2,.d (.ptr [u32 m])),(7,.d (stepsD n.steps)),(8,.d (int n.steps.length)),(9,.d (int k))],own:=jb n m c ((n.steps.take k).foldl (qc m c) 0) .ready})
  (λk=>k<=n.steps.length) (λk=>n.steps.length-k) 0 (by simp) (by simp+decide[int,u32,stepsD,Nett.cells,jb]) ?_
 intro k M
 refine KJ ?_
 by_cases G:k<n.steps.length
 case neg=>
  have:k=n.steps.length:=by omega
  subst this;rw[List.take_length];have O:(n.steps.foldl (qc m c) 0)=yT n.steps m c:=rfl
  rw[O];simp+decide[int,u32,stepsD,Nett.cells,jb]
 have F:(k:Int)<n.steps.length:=by omega
 have hsn:(n.steps.take (k+1)).foldl (qc m c) 0=qc m c ((n.steps.take k).foldl (qc m c) 0) n.steps[k]:=by rw[yH G,List.foldl_append];rfl
 have K:(n.steps.take k).foldl (qc m c) 0<8:=Jf (λx Q=>E x (List.mem_of_mem_take Q)) (by omega)
 obtain⟨s,es⟩:∃ s,n.steps[k]=s:=⟨_,rfl⟩
 have e1:n.steps[k]?=some s:=by rw[List.getElem?_eq_getElem G,es]
 have H:=E s (by rw[<-es];exact List.getElem_mem G)
 rw[es] at hsn
 generalize (n.steps.take k).foldl (qc m c) 0=out at hsn K
 have T:=RY m s.src J H.1.1 H.1.2
 have V:=S0 n m c out K s H.2
 simp+decide[int,u32,stepsD,Nett.cells,Stp.row,jb,G,F,es]
 refine zh T ?_
 cases X:uR m s.src with
 |false=>
  have Y:qc m c out s=out:=by unfold qc;rw[if_neg (by rw[X];simp)]
  rw[Y] at hsn;simp+decide[I64];exact⟨⟨by omega,by omega⟩,k+1,G,by omega,by omega,by rw[hsn]⟩
 |true=>
  have Y:qc m c out s=if s.cls=c then vj out s.dst else out:=by unfold qc;rw[X];simp
  rw[Y] at hsn;simp+decide
  refine gP.tO 0 [0,1,2] [.d (.agg s.row)] (jb n m c out .ready) (by simp[rho]) (by simp[Stp.row,int]) (by simp[Sym.los,Sym.lo]) (by simp[jb,kD,u32,int];rfl) V ?_
  simp+decide[int,u32,jb,kD,I64];exact⟨⟨by omega,by omega⟩,k+1,G,by omega,by omega,by rw[hsn]⟩
theorem S5(n:Nett)(m:Nat)(c:Int)(H:ZJ n.steps)(G:m<8)(F:n.steps.length<2^40):
  zl Tryz.prog 203 [.agg n.cells,u32 m,int c] (u32 (yT n.steps m c)):=by
 refine Pn Tryz.func203 rfl c_203 ?_
 refine ZE mixed 2 {n:=22,next:=3,slots:=[(1,.d (u32 m)),(3,.bp 0 0),(5,.bp 1 0),(7,.bp 2 0)],own:=[(0,.box 33 (n.cells.map .d)),(1,.box 3 [.d (int c)]),(2,.box 218 [.d (u32 0)])]} rfl ?_ ?_
 .simp+decide[Tryz.f203,yp,Nett.cells,int,u32]
 simp only[yK]
 refine KN (ZE mixed 1 {n:=22,next:=3,slots:=[(5,.bp 1 0),(7,.bp 2 0),(11,.d (Ub n m))],own:=[(1,.box 3 [.d (int c)]),(2,.box 218 [.d (u32 0)])]} rfl ?_ ?_)
 .simp+decide[yp,Nett.cells,int,u32]
  refine zh (RZ n m) ?_
  simp+decide
 simp only[yK]
 refine KO (KL (k:=0) (ids:=[3,2,1]) (args0:=[.yd 0,.d (.ptr n.cells),.d (.ptr [u32 m])]) (own0:=jb n m c 0 .ready) (by rfl) (by simp[rho]) (by simp) (by simp[Sym.los,Sym.lo]) ?_ (S4 n m c H G F) ?_)
 .simp+decide[jb,kD,vI,vJ,jL,Tryz.f203,u32,int]
 .simp+decide[jb,kD,u32,int]
def xP(l:List Stp)(cs:List Int):Nat:=cs.foldl (λm c=>yT l m c) 1
def yV(l:List Int):Nat:=l.foldl vj 0
theorem Ud{l:List Stp}(h:ZJ l):∀ (cs:List Int) (m:Nat),m<8->cs.foldl (λm c=>yT l m c) m<8
 | [],m,hm=>hm
 |c::cs,m,hm=>by rw[List.foldl_cons];exact Ud h cs _ (Uc h m c)
theorem YN:∀ (l:List Int) (m:Nat),(∀ q∈l,0<=q/\q<3)->m<8->l.foldl vj m<8
 | [],m,_,H=>H
 |q::l,m,h,H=>by
  rw[List.foldl_cons];exact YN l _ (λx hx=>h x (by simp[hx])) (CH H (h q (by simp)).1 (h q (by simp)).2)
theorem S7(n:Nett)(F:ZJ n.steps)(K:n.steps.length<2^40)(cs:List Int)(J:cs.length<2^40):zl Tryz.prog 156 [.agg n.cells,ints cs] (u32 (xP n.steps cs)):=by
 refine zp mixed Tryz.func156 rfl c_156 ?_
 simp+decide[Tryz.f156,Nett.cells,int,ints,u32]
 refine zu mixed (λk:Nat=>{n:=20,next:=1,slots:=[(2,.bp 0 0),(5,.d (u32 (xP n.steps (cs.take k)))),(8,.d (ints cs)),(9,.d (int cs.length)),(10,.d (int k))],own:=[(0,.box 33 (n.cells.map .d))]})
  (λk=>k<=cs.length) (λk=>cs.length-k) 0 (by simp) (by simp+decide[int,ints,u32,Nett.cells,xP]) ?_
 intro k L
 by_cases H:k<cs.length
 case neg=>
  have:k=cs.length:=by omega
  subst this;rw[List.take_length];simp+decide[int,ints,u32]
 have G:(k:Int)<cs.length:=by omega
 have hsn:xP n.steps (cs.take (k+1))=yT n.steps (xP n.steps (cs.take k)) cs[k]:=by unfold xP;rw[yH H,List.foldl_append];rfl
 have E:xP n.steps (cs.take k)<8:=Ud F _ 1 (by omega)
 obtain⟨c,ec⟩:∃ c,cs[k]=c:=⟨_,rfl⟩
 have e1:cs[k]?=some c:=by rw[List.getElem?_eq_getElem H,ec]
 rw[ec] at hsn
 generalize xP n.steps (cs.take k)=m at hsn E
 have M:=S5 n m c F E K
 simp+decide[int,ints,u32,Nett.cells,H,G,ec]
 refine zh M ?_
 simp+decide[u32,I64]
 exact⟨⟨by omega,by omega⟩,k+1,H,by omega,by rw[hsn],by omega⟩
theorem S8(n:Nett)(E:∀ q∈n.final,0<=q/\q<3)(K:n.final.length<2^40):zl Tryz.prog 157 [.agg n.cells] (u32 (yV n.final)):=by
 refine zp mixed Tryz.func157 rfl c_157 ?_
 simp+decide[Tryz.f157,Nett.cells,int,ints,u32]
 refine zu mixed (λk:Nat=>{n:=18,next:=1,slots:=[(3,.d (u32 (yV (n.final.take k)))),(7,.d (ints n.final)),(8,.d (int n.final.length)),(9,.d (int k))],own:=[]})
  (λk=>k<=n.final.length) (λk=>n.final.length-k) 0 (by simp) (by simp+decide[int,ints,u32,yV]) ?_
 intro k J
 by_cases H:k<n.final.length
 case neg=>
  have:k=n.final.length:=by omega
  subst this;rw[List.take_length];simp+decide[int,ints,u32]
 have G:(k:Int)<n.final.length:=by omega
 have hsn:yV (n.final.take (k+1))=vj (yV (n.final.take k)) n.final[k]:=by unfold yV;rw[yH H,List.foldl_append];rfl
 have F:yV (n.final.take k)<8:=YN _ 0 (λx L=>E x (List.mem_of_mem_take L)) (by omega)
 have M:=E n.final[k] (List.getElem_mem H)
 obtain⟨c,ec⟩:∃ c,n.final[k]=c:=⟨_,rfl⟩
 have e1:n.final[k]?=some c:=by rw[List.getElem?_eq_getElem H,ec]
 rw[ec] at hsn M
 generalize yV (n.final.take k)=m at hsn F
 have O:=CJ m c F M.1 M.2
 simp+decide[int,ints,u32,H,G,ec]
 refine zh O ?_
 simp+decide[u32,I64]
 exact⟨⟨by omega,by omega⟩,k+1,H,by omega,by rw[hsn],by omega⟩
def Ue(n:Nett):Prop:=ZJ n.steps/\(∀ q∈n.final,0<=q/\q<3)/\n.steps.length<2^40/\n.final.length<2^40
theorem S9:∀ (a b:Fin 8),(jE .and .u32 (a.val:Int) (b.val:Int))=((a.val &&& b.val:Nat):Int):=by decide +kernel
def ZK(n:Nett)(cs:List Int):Bool:=decide (xP n.steps cs &&& yV n.final≠0)
theorem Si(n:Nett)(H:Ue n)(cs:List Int)(G:cs.length<2^40):zl Tryz.prog 94 [.agg n.cells,ints cs] (.bool (ZK n cs)):=by
 obtain⟨F,E,K,J⟩:=H
 have w1:=S7 n F K cs G
 have w2:=S8 n E J
 have l1:xP n.steps cs<8:=Ud F cs 1 (by omega)
 have l2:yV n.final<8:=YN _ 0 E (by omega)
 unfold ZK
 generalize xP n.steps cs=a at w1 l1 ⊢
 generalize yV n.final=b at w2 l2 ⊢
 have L:=S9 ⟨a,l1⟩ ⟨b,l2⟩
 simp only at L
 refine zp mixed Tryz.func94 rfl c_94 ?_
 simp+decide[Tryz.f94,Nett.cells,int,ints]
 refine scp w1 ?_
 simp+decide[u32]
 refine scp w2 ?_
 simp+decide[u32,L]
theorem Sj(e:Ent)(id:Int):zl Tryz.prog 98 [.agg e.row,.ptr [int id]] (.bool (decide (e.id=id))):=by
 refine zp mixed Tryz.func98 rfl c_98 ?_
 simp+decide[Tryz.f98,Ent.row,int]
theorem Sl(l:List Ent)(id:Int)(F:l.length<2^62):zl Tryz.prog 97 [zj l,.fn 98 [.ptr [int id]]] (int (xe l id)):=by
 refine zp mixed Tryz.func97 rfl c_97 ?_
 simp[Tryz.f97,zj]
 refine zu mixed (λk:Nat=>{n:=19,next:=0,slots:=[(0,.d (zj l)),(1,.d (.fn 98 [.ptr [int id]])),(6,.d (zj l)),(7,.d (.int .i64 l.length)),(8,.d (.int .i64 k))],own:=[]})
  (λk=>k<=l.length/\∀ e∈l.take k,e.id≠id) (λk=>l.length-k) 0 (by simp) (by simp[zj]) ?_
 intro k ⟨E,K⟩
 by_cases H:k<l.length
 .have G:(k:Int)<l.length:=by omega
  obtain⟨e,ee⟩:∃ e,l[k]=e:=⟨_,rfl⟩;have e1:l[k]?=some e:=by rw[List.getElem?_eq_getElem H,ee]
  simp+decide[zj,Ent.row,int,ee,H,G];refine zh (Sj e id) ?_
  by_cases J:e.id=id
  .have:=U6 H K (by rw[ee];exact J)
   simp+decide[J,xe,this]
  .simp+decide[J,I64]
   exact⟨⟨by omega,by omega⟩,k+1,⟨H,uh H K (by rw[ee];exact J)⟩,by omega,by omega⟩
 .have:k=l.length:=by omega
  subst this;simp+decide[zj,int];simp[xe,U7 (by simpa using K)]
theorem kE(l:List Ent)(id:Int):(xe l id<0/\zJ l id=(Ent.zero,false))\/∃ k:Nat,∃ h:k<l.length,xe l id=k/\zJ l id=(l[k],true):=by
 unfold xe zJ
 cases h:l.findIdx? (·.id=id) with
 |none=>
  left
  rw[List.findIdx?_eq_none_iff] at h;have:l.find? (·.id=id)=none:=by rw[List.find?_eq_none];intro x H;simpa using h x H
  rw[this];exact⟨by simp,rfl⟩
 |some k=>
  right
  rw[List.findIdx?_eq_some_iff_getElem] at h;obtain⟨G,F,E⟩:=h;refine⟨k,G,rfl,?_⟩
  have:l.find? (·.id=id)=some l[k]:=by
   rw[List.find?_eq_some_iff_getElem];exact⟨F,k,G,rfl,λj hj=>by simpa using E j hj⟩
  rw[this]
theorem Jg(l:List Ent)(id:Int)(F:l.length<2^40):zl Tryz.prog 42 [zj l,int id] (.tup [.agg (zJ l id).1.row,.bool (zJ l id).2]):=by
 refine zp mixed Tryz.func42 rfl c_42 ?_
 simp+decide[Tryz.f42,zj,int]
 refine zh (Sl l id (by omega)) ?_
 rcases kE l id with⟨E,K⟩ | ⟨k,J,E,K⟩
 .rw[K]
  simp+decide[int,E,Ent.zero,Ent.row,ints,yG,ye,x9,jr]
 .rw[K,E]
  have H:¬(k:Int)<0:=by omega
  have G:(k:Int)<l.length:=by omega
  simp+decide[int,H,J,G,Ent.row,ints,yG,ye,x9,jr]
def wo(l:List Ent):Nat->Int->Option (List Sens)
 |0,_=>none
 |f+1,id=>if (zJ l id).2=true then (if (zJ l id).1.senses≠[] then some (zJ l id).1.senses else if (zJ l id).1.main=0 then none else wo l f (zJ l id).1.main) else none
def qk(l:List Ent)(id:Int):List Sens:=(wo l (l.length+1) id).getD []
theorem Sr(l:List Sens)(H:l.length<2^40):zl Tryz.prog 103 [ye l] (ye l):=by
 refine zp mixed Tryz.func103 rfl c_103 ?_
 simp+decide[Tryz.f103,ye,maxLen]
 exact⟨λa _=>rfl,by omega,by omega⟩
def jM:List Sym:=[.junk,.junk,.junk,.junk,.bp 1 0,.junk,.junk,.junk,.fn 160 [.bp 2 0,.bp 3 0],.junk,.junk,.junk,.junk,.junk,.junk,.junk,.junk]
@[simp] theorem znb:Sym.los 4 jM:=by simp[jM,Sym.los,Sym.lo]
@[simp] theorem zlq:yu (yC [0,1,2,3] 5) jM=jM:=rfl
noncomputable def vw(s:LoopState)(pd:Option Code):Obj':=.raw (.lp #[9] (vI Tryz.f45) (vJ Tryz.f45) s pd) jM
noncomputable def vk(l:List Ent)(id:Int):List (Nat×Obj'):=
 [(0,vw .ready none),(1,.box 98 [.nils]),(2,.box 34 [.d (zj l)]),(3,.box 3 [.d (int id)])]
noncomputable def Uf(l:List Ent)(id:Int)(ss:List Sens):List (Nat×Obj'):=
 [(0,vw .done (some .ret)),(1,.box 98 [.d (ye ss)]),(2,.box 34 [.d (zj l)]),(3,.box 3 [.d (int id)])]
theorem Ss(l:List Ent)(id:Int)(e:Ent)(H:e.senses=[]):
  ZF Tryz.prog 0 [.d (.agg e.row)] (vk l id) 4 (.d (.bool true)) 4 (vk l id) []:=by
 refine J2 (cells:=jM) (ps:=#[9]) (aS := vI Tryz.f45) (bd:=vJ Tryz.f45) rfl (by simp) (by simp[jM]) (by omega) (by simp[Sym.los,Sym.lo]) ?_
 simp+decide[vk,vw,jM,vI,vJ,jL,Tryz.f45,Ent.row,int,H,ye]
theorem Sv(l:List Ent)(id:Int)(e:Ent)(H:e.senses≠[])(G:e.senses.length<2^40):
  ZF Tryz.prog 0 [.d (.agg e.row)] (vk l id) 4 (.d (.bool false)) 4 (Uf l id e.senses) []:=by
 refine J2 (cells:=jM) (ps:=#[9]) (aS := vI Tryz.f45) (bd:=vJ Tryz.f45) rfl (by simp) (by simp[jM]) (by omega) (by simp[Sym.los,Sym.lo]) ?_
 have F:=Sr e.senses G
 have E:(0:Int)<e.senses.length:=by
  have:e.senses.length≠0:=λe2=>H (List.eq_nil_of_length_eq_zero e2)
  omega
 simp+decide[vk,Uf,vw,jM,vI,vJ,jL,Tryz.f45,Ent.row,int,H,ye]
 intro _
 refine zh F ?_
 simp+decide[ye]
noncomputable def gZ:Option (List Sens)->List (Nat×Obj')
 |none=>[(0,vw .ready none),(1,.box 98 [.nils])]
 |some ss=>[(0,vw .done (some .ret)),(1,.box 98 [.d (ye ss)])]
theorem Sz(l:List Ent)(id:Int)(L:l.length<2^40)(hs:∀ e∈l,e.senses.length<2^40):
  zI Tryz.prog 160 [.yd 0,.bp 2 0,.bp 3 0] (vk l id) 4 (.d (.tup [])) 4 (gZ (wo l (l.length+1) id)) []:=by
 refine zI.J6 (xW mixed Tryz.func160 rfl c_160 (by simp[Sym.los,Sym.lo]) ?_)
 simp+decide[Tryz.f160,vk,zj,int,I64]
 refine⟨⟨by omega,by omega⟩,?_⟩
 refine xn mixed (λx:Nat×Int=>{n:=33,next:=4,base:=4,slots:=[(0,.yd 0),(1,.bp 2 0),(2,.bp 3 0),(8,.d (int (l.length+1))),(9,.d (int x.1))],own:=vk l x.2})
  (λx=>x.1<=l.length+1/\wo l (l.length+1-x.1) x.2=wo l (l.length+1) id) (λx=>l.length+1-x.1) (0,id) (by simp) (by simp+decide[int,zj,vk,vw]) ?_
 rintro⟨k,i⟩ ⟨M,O⟩
 simp only at M O
 refine KJ ?_
 by_cases J:k<l.length+1
 case neg=>
  have:k=l.length+1:=by omega
  subst this;rw[Nat.sub_self] at O;rw[<-O];simp+decide[int,zj,vk,vw,wo,gZ]
 have E:(k:Int)<l.length+1:=by omega
 rw[show l.length+1-k=(l.length-k)+1 by omega,wo] at O
 have Q:=Jg l i L
 have H:(zJ l i).2=true->(zJ l i).1∈l:=by
  rcases kE l i with⟨_,T⟩ | ⟨j,hj,_,T⟩
  .rw[T];intro h;cases h
  .rw[T];intro _;exact List.getElem_mem hj
 generalize zJ l i=g at O Q H
 obtain⟨e,ok⟩:=g
 simp only at O Q H
 simp+decide[int,zj,vk,vw,E]
 refine zh Q ?_
 cases ok with
 |false=>
  simp only[Bool.false_eq_true,if_false] at O;rw[<-O];simp+decide[int,vw,gZ,Ent.row]
 |true=>
  simp only[if_true] at O;have K:=H rfl;by_cases G:e.senses=[]
  .have V:=Ss l i e G
   rw[if_neg (by simp[G])] at O
   simp+decide[int,Ent.row];refine gP.tO 0 [0,1,2,3] [.d (.agg e.row)] (vk l i) (by simp[rho]) (by simp[Ent.row,int]) (by simp[Sym.los,Sym.lo]) (by simp[vk,vw,jM,zj,int];rfl) V ?_
   by_cases F:e.main=0
   .rw[if_pos F] at O
    rw[<-O];simp+decide[int,zj,vk,vw,gZ,F]
   .rw[if_neg F] at O
    simp+decide[int,zj,vk,vw,gZ,F];exact⟨by unfold I64;omega,k+1,e.main,⟨by omega,by rw[show l.length+1-(k+1)=l.length-k by omega];exact O⟩,by omega,by omega,rfl⟩
  .have V:=Sv l i e G (hs e K)
   rw[if_pos G] at O;rw[<-O];simp+decide[int,Ent.row];refine gP.tO 0 [0,1,2,3] [.d (.agg e.row)] (vk l i) (by simp[rho]) (by simp[Ent.row,int]) (by simp[Sym.los,Sym.lo]) (by simp[vk,vw,jM,zj,int];rfl) V ?_
   simp+decide[int,zj,Uf,vw,gZ]
theorem SA(l:List Ent)(id:Int):zI Tryz.prog 102 [.d (zj l),.d (int id)] [] 0 (.fn 160 [.bp 0 0,.bp 1 0]) 2 [(0,.box 34 [.d (zj l)]),(1,.box 3 [.d (int id)])] []:=by
 refine xW mixed Tryz.func102 rfl c_102 (by simp[Sym.los,Sym.lo]) ?_
 simp+decide[Tryz.f102,zj,int]
theorem Jh(l:List Ent)(id:Int)(H:l.length<2^40)(hs:∀ e∈l,e.senses.length<2^40):zl Tryz.prog 45 [zj l,int id] (ye (qk l id)):=by
 refine Pn Tryz.func45 rfl c_45 ?_
 refine ZE mixed 1 {n:=17,next:=1,slots:=[(0,.d (zj l)),(1,.d (int id)),(4,.bp 0 0)],own:=[(0,.box 98 [.nils])]} rfl ?_ ?_
 .simp+decide[Tryz.f45,yp,zj,int]
 simp only[yK]
 refine KN (ZE mixed 1 {n:=17,next:=3,slots:=[(4,.bp 0 0),(8,.fn 160 [.bp 1 0,.bp 2 0])],own:=[(0,.box 98 [.nils]),(1,.box 34 [.d (zj l)]),(2,.box 3 [.d (int id)])]} rfl ?_ ?_)
 .simp+decide[yp,zj,int]
  refine zG.mut [] [.d (zj l),.d (int id)] [] (by rfl) (by simp[zj,int]) (by simp) (by simp) (SA l id) ?_
  simp+decide[zj,int]
 simp only[yK]
 refine KO (KL (k:=0) (ids:=[3,0,1,2]) (args0:=[.yd 0,.bp 2 0,.bp 3 0]) (own0:=vk l id) (by rfl) (by simp[rho]) (by simp) (by simp[Sym.los,Sym.lo]) ?_ (Sz l id H hs) ?_)
 .simp+decide[vk,vw,jM,vI,vJ,jL,Tryz.f45,int,zj]
 .unfold qk
  cases wo l (l.length+1) id with
  |none=>
   simp+decide[gZ,vw,int,zj,ye]
  |some ss=>
   simp+decide[gZ,vw,int,zj]
structure LexFit(l:List Ent):Prop where
 len:l.length<2^40
 alts:∀ e∈l,e.alts.length<2^39
 form:∀ e∈l,∀ w∈e.forms,w.length<2^20
 senses:∀ e∈l,e.senses.length<2^40
theorem Qu{l:List Ent}{id:Int}(h:(zJ l id).2=true):(zJ l id).1∈l:=by
 rcases kE l id with⟨_,H⟩ | ⟨j,hj,_,H⟩
 .rw[H] at h;cases h
 .rw[H];exact List.getElem_mem hj
theorem CL{l:List Ent}(h:LexFit l)(id:Int):(zJ l id).1.alts.length<2^39:=by
 cases H:(zJ l id).2 with
 |true=>exact h.alts _ (Qu H)
 |false=>
  rcases kE l id with⟨_,G⟩ | ⟨j,hj,_,G⟩
  .rw[G];simp[Ent.zero]
  .rw[G] at H;cases H
theorem Ug(e:Ent)(h:e.alts.length<2^40):zl Tryz.prog 44 [.agg e.row] (yG e.forms):=by
 refine zp mixed Tryz.func44 rfl c_44 ?_
 simp[Tryz.f44,Ent.row,yG,ints,Ent.forms,maxLen]
 omega
def zq:D->List Sym
 |.agg l=>l.map .d
 |_=>[]
def qX(l:List Ent)(p:Prt):Ent×List Int×Bool:=
 if (zJ l p.entry).2=true/\0<=p.alt/\p.alt<(zJ l p.entry).1.forms.length then ((zJ l p.entry).1,((zJ l p.entry).1.forms[p.alt.toNat]?.getD []),true) else ((zJ l p.entry).1,[],false)
def kF(r:Ent×List Int×Bool):D:=.tup [.agg r.1.row,ints r.2.1,.bool r.2.2]
theorem Uh(g:Lang)(K:LexFit g.lex)(p:Prt):zl Tryz.prog 93 [g.d,.agg p.row] (kF (qX g.lex p)):=by
 have J:=Jg g.lex p.entry K.len
 have L:=CL K p.entry
 unfold qX
 generalize zJ g.lex p.entry=r at J L
 obtain⟨e,ok⟩:=r
 simp only at J L
 have M:=Ug e (by omega)
 have E:e.forms.length=e.alts.length+1:=by simp[Ent.forms]
 refine zp mixed Tryz.func93 rfl c_93 ?_
 simp+decide[Tryz.f93,Lang.d,Prt.row,int]
 refine zh J ?_
 simp+decide[int,Ent.row]
 refine zh M ?_
 cases ok with
 |false=>
  simp+decide[int,Ent.row,kF,ints]
 |true=>
  by_cases O:p.alt<0
  .have H:¬0<=p.alt:=by omega
   simp+decide[int,Ent.row,kF,ints,O,H];done
  have H:0<=p.alt:=by omega
  by_cases Q:p.alt<e.forms.length
  .have F:p.alt.toNat<e.forms.length:=by omega
   obtain⟨w,ew⟩:∃ w,e.forms[p.alt.toNat]=w:=⟨_,rfl⟩;have e1:e.forms[p.alt.toNat]?=some w:=by rw[List.getElem?_eq_getElem F,ew]
   have G:¬(e.forms.length:Int)<=p.alt:=by omega
   simp+decide[int,Ent.row,yG,kF,O,H,Q,G,ew];refine Qj mixed 6 [2] (by rfl) (by rfl) (by rfl) (by rfl) (by simp) ?_
   simp+decide[ints,H,Q,ew,F]
  .have G:(e.forms.length:Int)<=p.alt:=by omega
   simp+decide[int,Ent.row,yG,kF,ints,O,H,Q,G]
def yW(l:List Ent)(ps:List Prt):List Int:=ps.flatMap λp=>if (qX l p).2.2=true then [(qX l p).1.cls] else []
def y9(l:List Ent)(ps:List Prt):List Int:=ps.flatMap λp=>if (qX l p).2.2=true then (qX l p).2.1 else []
theorem SB{l:List Ent}{ps:List Prt}{k:Nat}(h:k<ps.length):yW l (ps.take (k+1))=yW l (ps.take k)++(if (qX l ps[k]).2.2=true then [(qX l ps[k]).1.cls] else []):=by
 unfold yW;rw[yH h,List.flatMap_append,List.flatMap_singleton]
theorem SC{l:List Ent}{ps:List Prt}{k:Nat}(h:k<ps.length):y9 l (ps.take (k+1))=y9 l (ps.take k)++(if (qX l ps[k]).2.2=true then (qX l ps[k]).2.1 else []):=by
 unfold y9;rw[yH h,List.flatMap_append,List.flatMap_singleton]
theorem Ui(l:List Ent):∀ ps:List Prt,(yW l ps).length<=ps.length
 | []=>by simp[yW]
 |p::ps=>by
  have:=Ui l ps
  unfold yW at this ⊢;rw[List.flatMap_cons,List.length_append,List.length_cons];split <;> simp only[List.length_singleton,List.length_nil] <;> omega
theorem CM{l:List Ent}(h:LexFit l)(p:Prt):(qX l p).2.1.length<2^20:=by
 unfold qX
 split
 .rename_i hc
  have H:p.alt.toNat<(zJ l p.entry).1.forms.length:=by omega
  show((zJ l p.entry).1.forms[p.alt.toNat]?.getD []).length<_
  rw[List.getElem?_eq_getElem H];exact h.form _ (Qu hc.1) _ (List.getElem_mem H)
 .simp
theorem Uj{l:List Ent}(h:LexFit l):∀ ps:List Prt,(y9 l ps).length<=ps.length*2^20
 | []=>by simp[y9]
 |p::ps=>by
  have H:=Uj h ps;have G:=CM h p;unfold y9 at H ⊢;rw[List.flatMap_cons,List.length_append,List.length_cons,Nat.add_mul];split
  .omega
  .simp only[List.length_nil];omega
theorem SD(g:Lang)(E:LexFit g.lex)(ps:List Prt)(K:ps.length<2^20):zl Tryz.prog 95 [g.d,zZ ps] (ints (yW g.lex ps)):=by
 refine zp mixed Tryz.func95 rfl c_95 ?_
 simp+decide[Tryz.f95,Lang.d,zZ,zm,int]
 refine zu mixed (λk:Nat=>{n:=33,next:=4,slots:=[(2,.bp 0 0),(5,.ar 3),(12,.d (zm ps)),(13,.d (int ps.length)),(14,.d (int k))],own:=[(0,.box 36 (zq g.d)),(3,.arr 3 1 ((yW g.lex (ps.take k)).map λn=>[int n]))],moved:=[3]})
  (λk=>k<=ps.length) (λk=>ps.length-k) 0 (by simp) (by simp+decide[int,zm,yW,zq,Lang.d]) ?_
 intro k J
 by_cases H:k<ps.length
 case neg=>
  have:k=ps.length:=by omega
  subst this;rw[List.take_length];simp+decide[int,ints,zm]
 have G:(k:Int)<ps.length:=by omega
 have hsn:=SB (l:=g.lex) H
 have F:=Ui g.lex (ps.take k)
 rw[List.length_take] at F
 obtain⟨p,ep⟩:∃ p,ps[k]=p:=⟨_,rfl⟩
 have e1:ps[k]?=some p:=by rw[List.getElem?_eq_getElem H,ep]
 rw[ep] at hsn
 have L:=Uh g E p
 generalize qX g.lex p=r at L hsn
 obtain⟨e,w,ok⟩:=r
 simp only at hsn
 simp+decide[int,zm,Prt.row,H,G,ep,zq,Lang.d]
 refine zh L ?_
 cases ok with
 |false=>
  simp only[Bool.false_eq_true,if_false,List.append_nil] at hsn;simp+decide[kF,int,ints,Ent.row,I64];exact⟨⟨by omega,by omega⟩,k+1,H,by omega,by omega,by rw[hsn]⟩
 |true=>
  simp only[if_true] at hsn;simp+decide[kF,int,ints,Ent.row,I64];exact⟨by omega,by unfold maxLen;omega,⟨by omega,by omega⟩,k+1,H,by omega,by omega,by rw[hsn];simp⟩
theorem CN(g:Lang)(K:LexFit g.lex)(ps:List Prt)(J:ps.length<2^20):zl Tryz.prog 96 [g.d,zZ ps] (ints (y9 g.lex ps)):=by
 refine zp mixed Tryz.func96 rfl c_96 ?_
 simp+decide[Tryz.f96,Lang.d,zZ,zm,int]
 refine zu mixed (λk:Nat=>{n:=31,next:=4,slots:=[(2,.bp 0 0),(5,.ar 3),(12,.d (zm ps)),(13,.d (int ps.length)),(14,.d (int k))],own:=[(0,.box 36 (zq g.d)),(3,.arr 3 1 ((y9 g.lex (ps.take k)).map λn=>[int n]))],moved:=[3]})
  (λk=>k<=ps.length) (λk=>ps.length-k) 0 (by simp) (by simp+decide[int,zm,y9,zq,Lang.d]) ?_
 intro k L
 by_cases H:k<ps.length
 case neg=>
  have:k=ps.length:=by omega
  subst this;rw[List.take_length];simp+decide[int,ints,zm]
 have G:(k:Int)<ps.length:=by omega
 have hsn:=SC (l:=g.lex) H
 have F:=Uj K (ps.take k)
 rw[List.length_take] at F
 obtain⟨p,ep⟩:∃ p,ps[k]=p:=⟨_,rfl⟩
 have e1:ps[k]?=some p:=by rw[List.getElem?_eq_getElem H,ep]
 rw[ep] at hsn
 have M:=Uh g K p
 have E:=CM K p
 generalize qX g.lex p=r at M hsn E
 obtain⟨e,w,ok⟩:=r
 simp only at hsn E
 simp+decide[int,zm,Prt.row,H,G,ep,zq,Lang.d]
 refine zh M ?_
 cases ok with
 |false=>
  simp only[Bool.false_eq_true,if_false,List.append_nil] at hsn;simp+decide[kF,int,ints,Ent.row,I64];exact⟨⟨by omega,by omega⟩,k+1,H,by omega,by omega,by rw[hsn]⟩
 |true=>
  simp only[if_true] at hsn;simp+decide[kF,int,ints,Ent.row,I64];exact⟨by omega,by unfold maxLen;omega,⟨by omega,by omega⟩,k+1,H,by omega,by omega,by rw[hsn];simp⟩
def uS(l:List Int)(x:Int):Int:=match l.findIdx? (· = x) with
 |some k=>k
 |none=>-1
theorem CO(l:List Int)(x:Int):(0<=uS l x↔x∈l):=by
 unfold uS
 cases h:l.findIdx? (· = x) with
 |none=>
  rw[List.findIdx?_eq_none_iff] at h;constructor
  .intro e;change (0:Int)<=-1 at e;omega
  .intro e;have:=h x e;simp at this
 |some k=>
  rw[List.findIdx?_eq_some_iff_getElem] at h;obtain⟨H,G,_⟩:=h;constructor
  .intro _;have F:l[k]=x:=by simpa using G
   rw[<-F];exact List.getElem_mem H
  .intro _;exact Int.natCast_nonneg k
theorem CP(l:List Int)(x:Int)(E:l.length<2^62):zl Tryz.prog 167 [ints l,int x] (int (uS l x)):=by
 refine zp mixed Tryz.func167 rfl c_167 ?_
 simp[Tryz.f167,ints]
 refine zu mixed (λk:Nat=>{n:=19,next:=0,slots:=[(0,.d (ints l)),(1,.d (int x)),(6,.d (ints l)),(7,.d (.int .i64 l.length)),(8,.d (.int .i64 k))],own:=[]})
  (λk=>k<=l.length/\∀ y∈l.take k,y≠x) (λk=>l.length-k) 0 (by simp) (by simp[ints,int]) ?_
 intro k ⟨K,J⟩
 by_cases H:k<l.length
 .have G:(k:Int)<l.length:=by omega
  obtain⟨c,ec⟩:∃ c,l[k]=c:=⟨_,rfl⟩;have e1:l[k]?=some c:=by rw[List.getElem?_eq_getElem H,ec]
  by_cases L:c=x
  .have M:l.findIdx? (· = x)=some k:=by
    rw[List.findIdx?_eq_some_iff_getElem];refine⟨H,by simpa[ec] using L,λj hj=>?_⟩
    have:=J l[j] (by rw[List.mem_take_iff_getElem];exact⟨j,by omega,rfl⟩)
    simpa using this
   subst L;simp+decide[ints,int,ec,H,G,uS,M]
  .have F:¬x=c:=λe=>L e.symm
   simp+decide[ints,int,ec,H,G,F,I64];exact⟨⟨by omega,by omega⟩,k+1,⟨H,uh H J (by rw[ec];exact L)⟩,by omega,by omega⟩
 .have:k=l.length:=by omega
  subst this;have M:l.findIdx? (· = x)=none:=by
   rw[List.findIdx?_eq_none_iff];intro y O;have:=J y (by rwa [List.take_length]);simpa using this
  simp+decide[ints,int,uS,M]
theorem SE(l:List Int)(x:Int)(H:l.length<2^62):zl Tryz.prog 116 [ints l,int x] (.bool (decide (x∈l))):=by
 refine zp mixed Tryz.func116 rfl c_116 ?_
 simp+decide[Tryz.f116,int,ints]
 refine zh (CP l x H) ?_
 have:=CO l x
 simp+decide[int,this]
theorem CQ(l:List Int)(x:Int)(H:l.length<2^62):zl Tryz.prog 60 [ints l,int x] (.bool (decide (x∈l))):=by
 refine zp mixed Tryz.func60 rfl c_60 ?_
 simp+decide[Tryz.f60,int,ints]
 refine zh (SE l x H) ?_
 simp+decide
def Ji(inv:List Phon)(cs:List Cls):D:=.agg [zP inv,wm cs]
theorem SG(inv:List Phon)(cs:List Cls)(k:Nat)(G:k<cs.length)(n:Int)(F:inv.length<2^62):zl Tryz.prog 281 [Ji inv cs,int k,int n] (.bool (gY inv n cs[k])):=by
 have H:(k:Int)<cs.length:=by omega
 obtain⟨c,ec⟩:∃ c,cs[k]=c:=⟨_,rfl⟩
 have e1:cs[k]?=some c:=by rw[List.getElem?_eq_getElem G,ec]
 rw[ec]
 refine zp mixed Tryz.func281 rfl c_281 ?_
 simp+decide[Tryz.f281,int,Ji,wm,Cls.row,G,H,ec]
 refine scp (RH inv n c F) ?_
 simp+decide
def Z1(inv:List Phon)(cs:List Cls)(ws:List Int):Bool:=(ws.zip cs).all λx=>gY inv x.1 x.2
theorem SH{α β:Type}{a:List α}{b:List β}{k:Nat}(h:k<a.length)(H:k<b.length):(a.take (k+1)).zip (b.take (k+1))=(a.take k).zip (b.take k)++[(a[k],b[k])]:=by
 rw[yH h,yH H,List.zip_append (by rw[List.length_take,List.length_take];omega)];rfl
theorem CS(inv:List Phon)(cs:List Cls)(ws:List Int)(J:ws.length=cs.length)(L:inv.length<2^62)(M:cs.length<2^62):
  zl Tryz.prog 280 [.fn 281 [],Ji inv cs,ints ws] (.bool (Z1 inv cs ws)):=by
 refine zp mixed Tryz.func280 rfl c_280 ?_
 simp+decide[Tryz.f280,Ji,ints]
 refine zu mixed (λk:Nat=>{n:=23,next:=1,slots:=[(0,.d (.fn 281 [])),(4,.bp 0 0),(9,.d (ints ws)),(10,.d (.int .i64 ws.length)),(11,.d (.int .i64 k))],own:=[(0,.box 319 [.d (zP inv),.d (wm cs)])]})
  (λk=>k<=ws.length/\((ws.take k).zip (cs.take k)).all (λx=>gY inv x.1 x.2)=true) (λk=>ws.length-k) 0 (by simp) (by simp[ints]) ?_
 intro k ⟨O,Q⟩
 by_cases H:k<ws.length
 .have G:(k:Int)<ws.length:=by omega
  have E:k<cs.length:=by omega
  have T:=SG inv cs k E ws[k] L;have hsn:=SH H E;obtain⟨c,ec⟩:∃ c,ws[k]=c:=⟨_,rfl⟩;have e1:ws[k]?=some c:=by rw[List.getElem?_eq_getElem H,ec]
  rw[ec] at T hsn;simp+decide[ints,ec,H,G];refine zh T ?_
  cases V:gY inv c cs[k] with
  |true=>
   simp+decide[I64];refine⟨⟨by omega,by omega⟩,k+1,⟨H,?_⟩,by omega,by omega⟩
   intro x y K;have F:((ws.take (k+1)).zip (cs.take (k+1))).all (λx=>gY inv x.1 x.2)=true:=by rw[hsn,List.all_append,Q,Bool.true_and];simp[V]
   exact List.all_eq_true.1 F (x,y) K
  |false=>
   have X:Z1 inv cs ws=false:=by
    unfold Z1;rw[List.all_eq_false];refine⟨(c,cs[k]),?_,by rw[V];decide⟩
    rw[List.mem_iff_getElem];exact⟨k,by rw[List.length_zip];omega,by rw[List.getElem_zip,ec]⟩
   simp+decide[X]
 .have:k=ws.length:=by omega
  subst this;rw[List.take_length,J,List.take_length] at Q;have X:Z1 inv cs ws=true:=Q
  simp+decide[ints,X]
def ZL(inv:List Phon)(r:Rule)(w:List Int)(k:Nat):Bool:=
 decide (w[k]?.getD 0∈r.src)&&decide (r.left.length<=k)&&decide (k+1+r.right.length<=w.length) && !(r.beg&&decide (r.left.length<k)) && !(r.fin&&decide (k+1+r.right.length<w.length)) &&
  Z1 inv r.left ((w.take k).drop (k-r.left.length))&&Z1 inv r.right ((w.take (k+1+r.right.length)).drop (k+1))
structure RuleFit(r:Rule):Prop where
 src:r.src.length<2^40
 left:r.left.length<2^40
 right:r.right.length<2^40
theorem SI(inv:List Phon)(B:inv.length<2^62)(r:Rule)(C:RuleFit r)(w:List Int)(I:w.length<2^40)(k:Nat)(N:k<w.length):
  zl Tryz.prog 267 [.agg [zP inv],.agg r.row,ints w,int k] (.bool (ZL inv r w k)):=by
 obtain⟨P,S,W⟩:=C
 obtain⟨x,ex⟩:∃ x,w[k]=x:=⟨_,rfl⟩
 have e1:w[k]?=some x:=by rw[List.getElem?_eq_getElem N,ex]
 have V:(k:Int)<w.length:=by omega
 have hH:=CQ r.src x (by omega)
 obtain⟨R,hR⟩:∃ R,ZL inv r w k=R:=⟨_,rfl⟩
 rw[hR]
 unfold ZL at hR
 rw[e1,Option.getD_some] at hR
 refine zp mixed Tryz.func267 rfl c_267 ?_
 obtain⟨src,dst,left,right,beg,fin⟩:=r
 simp only at P S W hH hR
 simp+decide[Tryz.f267,int,Rule.row,wm,I64]
 refine⟨by omega,by omega,by omega,?_⟩
 simp+decide[ints,ex,N,V]
 refine scp hH ?_
 by_cases hx:x∈src
 case neg=>
  have:R=false:=by rw[<-hR];simp[hx]
  subst this;simp+decide[hx]
 by_cases hf:left.length<=k
 case neg=>
  have:R=false:=by rw[<-hR];simp[hf]
  subst this;have H:(k:Int)-left.length<0:=by omega
  simp+decide[hx,H]
 have H:¬(k:Int)-left.length<0:=by omega
 by_cases ht:k+1+right.length<=w.length
 case neg=>
  have:R=false:=by rw[<-hR];simp[ht]
  subst this;have G:(w.length:Int)<k+1+right.length:=by omega
  simp+decide[hx,H,G]
 have G:¬(w.length:Int)<k+1+right.length:=by omega
 by_cases hb:beg=true/\left.length<k
 case pos=>
  obtain⟨X,J⟩:=hb;subst X;have:R=false:=by rw[<-hR];simp[J]
  subst this;have O:(0:Int)<(k:Int)-left.length:=by omega
  simp+decide[hx,H,G,J]
 have J:(beg&&decide (left.length<k))=false:=by
  cases beg
  .rfl
  .simp at hb;simp[hb]
 by_cases he:fin=true/\k+1+right.length<w.length
 case pos=>
  obtain⟨Y,L⟩:=he;subst Y;have:R=false:=by rw[<-hR];simp[L]
  subst this;have Q:(k:Int)+1+right.length<w.length:=by omega
  cases beg
  .simp+decide[hx,H,G,Q]
  .have O:¬(0:Int)<(k:Int)-left.length:=by simp at hb;omega
   simp+decide[hx,H,G,Q]
 have L:(fin&&decide (k+1+right.length<w.length))=false:=by
  cases fin
  .rfl
  .simp at he;simp[he]
 have Z:((w.take k).drop (k-left.length)).length=left.length:=by rw[List.length_drop,List.length_take];omega
 have A:((w.take (k+1+right.length)).drop (k+1)).length=right.length:=by rw[List.length_drop,List.length_take];omega
 have E:=CS inv left _ Z B (by omega)
 have F:=CS inv right _ A B (by omega)
 have eL:∀ a b,ints ((w.take a).drop b) = .sl (((w.map λn=>[D.int .i64 n]).take a).drop b):=λa b=>by simp[ints,List.map_drop,List.map_take]
 rw[eL] at E F
 rw[J,L] at hR
 generalize Z1 inv left ((w.take k).drop (k-left.length))=b1 at E hR
 generalize Z1 inv right ((w.take (k+1+right.length)).drop (k+1))=b2 at F hR
 have hR:R=(b1&&b2):=by rw[<-hR];simp[hx,hf,ht]
 subst hR
 have M:beg=true->¬(0:Int)<(k:Int)-left.length:=by
  intro e;subst e;simp at hb;omega
 have K:fin=true->¬(k:Int)+1+right.length<w.length:=by
  intro e;subst e;simp at he;omega
 have ek:((k:Int)+1+right.length).toNat=k+1+right.length:=by omega
 have ek1:((k:Int)+1).toNat=k+1:=by omega
 rw[<-ek] at F
 cases beg with
 |false=>
  cases fin with
  |false=>
   simp+decide[hx,hf,H,G];refine⟨⟨by omega,by omega⟩,?_⟩
   refine scp E ?_
   cases b1 with
   |false=>simp+decide
   |true=>
    simp+decide[I64];refine⟨⟨by omega,by omega⟩,⟨by omega,by omega,by omega⟩,?_⟩
    refine scp F ?_
    simp+decide
  |true=>
   have:=K rfl
   simp+decide[hx,hf,H,G,this];refine⟨⟨by omega,by omega⟩,?_⟩
   refine scp E ?_
   cases b1 with
   |false=>simp+decide
   |true=>
    simp+decide[I64];refine⟨⟨by omega,by omega⟩,⟨by omega,by omega,by omega⟩,?_⟩
    refine scp F ?_
    simp+decide
 |true=>
  have O:=M rfl;have T:¬left.length<k:=by omega
  cases fin with
  |false=>
   simp+decide[hx,hf,H,G,T];refine⟨⟨by omega,by omega⟩,?_⟩
   refine scp E ?_
   cases b1 with
   |false=>simp+decide
   |true=>
    simp+decide[I64];refine⟨⟨by omega,by omega⟩,⟨by omega,by omega,by omega⟩,?_⟩
    refine scp F ?_
    simp+decide
  |true=>
   have:=K rfl
   simp+decide[hx,hf,H,G,T,this];refine⟨⟨by omega,by omega⟩,?_⟩
   refine scp E ?_
   cases b1 with
   |false=>simp+decide
   |true=>
    simp+decide[I64];refine⟨⟨by omega,by omega⟩,⟨by omega,by omega,by omega⟩,?_⟩
    refine scp F ?_
    simp+decide
def YO(inv:List Phon)(r:Rule)(w:List Int)(k:Nat)(x:Int):List Int:=
 if ZL inv r w k=true then (if r.dst[(uS r.src x).toNat]?.getD 0=0 then [] else [r.dst[(uS r.src x).toNat]?.getD 0]) else [x]
def ZM(inv:List Phon)(r:Rule)(w:List Int):List Int:=(w.zipIdx.map λx=>YO inv r w x.2 x.1).flatten
theorem SJ{α:Type}{l:List α}{k:Nat}(h:k<l.length):l.zipIdx.take (k+1)=l.zipIdx.take k++[(l[k],k)]:=by
 have H:k<l.zipIdx.length:=by simpa using h
 rw[yH H]
 simp
def uT(inv:List Phon)(r:Rule)(w:List Int)(k:Nat):List Int:=((w.zipIdx.take k).map λx=>YO inv r w x.2 x.1).flatten
theorem CU{inv:List Phon}{r:Rule}{w:List Int}{k:Nat}(h:k<w.length):uT inv r w (k+1)=uT inv r w k++YO inv r w k w[k]:=by
 unfold uT;rw[SJ h,List.map_append,List.flatten_append];simp
theorem SK(inv:List Phon)(r:Rule)(w:List Int)(k:Nat)(x:Int):(YO inv r w k x).length<=1:=by
 unfold YO;split
 .split <;> simp
 .simp
theorem Uk(inv:List Phon)(r:Rule)(w:List Int):∀ k,k<=w.length->(uT inv r w k).length<=k
 |0,_=>by simp[uT]
 |k+1,h=>by
  rw[CU (by omega),List.length_append]
  have H:=Uk inv r w k (by omega)
  have G:=SK inv r w k (w[k]'(by omega))
  omega
theorem CV(inv:List Phon)(r:Rule)(w:List Int):uT inv r w w.length=ZM inv r w:=by
 unfold uT ZM
 rw[List.take_of_length_le (by simp)]
structure RuleOk(r:Rule):Prop extends RuleFit r where
 dst:r.dst.length=r.src.length
theorem SL(inv:List Phon)(Q:inv.length<2^62)(r:Rule)(T:RuleOk r)(w:List Int)(V:w.length<2^40):
  zl Tryz.prog 237 [.agg [zP inv],.agg r.row,ints w] (ints (ZM inv r w)):=by
 rw[<-CV]
 refine zp mixed Tryz.func237 rfl c_237 ?_
 simp+decide[Tryz.f237,ints,Rule.row]
 refine zu mixed (λk:Nat=>{n:=38,next:=4,slots:=[(2,.d (ints w)),(3,.bp 0 0),(4,.bp 1 0),(7,.ar 3),(10,.d (ints w)),(11,.d (int w.length)),(12,.d (int k))],own:=[(0,.box 24 [.d (zP inv)]),(1,.box 90 (r.row.map .d)),(3,.arr 3 1 ((uT inv r w k).map λn=>[int n]))],moved:=[3]})
  (λk=>k<=w.length) (λk=>w.length-k) 0 (by simp) (by simp+decide[int,ints,Rule.row,uT]) ?_
 intro k X
 by_cases H:k<w.length
 case neg=>
  have:k=w.length:=by omega
  subst this;simp+decide[int,ints]
 have E:(k:Int)<w.length:=by omega
 have hsn:=CU (inv:=inv) (r:=r) H
 have L:=Uk inv r w k X
 have Y:=SI inv Q r T.toRuleFit w V k H
 obtain⟨x,ex⟩:∃ x,w[k]=x:=⟨_,rfl⟩
 have e1:w[k]?=some x:=by rw[List.getElem?_eq_getElem H,ex]
 rw[ex] at hsn
 have Z:=CP r.src x (by have:=T.src;omega)
 have G:=CO r.src x
 have K:x∈r.src->∃ j:Nat,j<r.src.length/\uS r.src x=j:=by
  intro A;unfold uS at G ⊢;cases B:r.src.findIdx? (· = x) with
  |none=>rw[B] at G;exact absurd (G.2 A) (by decide)
  |some j=>
   rw[List.findIdx?_eq_some_iff_getElem] at B;exact⟨j,B.1,rfl⟩
 have F:ZL inv r w k=true->x∈r.src:=by
  intro h;unfold ZL at h;simp only[Bool.and_eq_true,decide_eq_true_eq] at h;have:=h.1.1.1.1.1.1
  rwa [e1,Option.getD_some] at this
 have M:=T.dst
 unfold YO at hsn
 simp+decide[int,ints,Rule.row,H,E,ex]
 refine zh Y ?_
 cases C:ZL inv r w k with
 |false=>
  rw[C] at hsn;simp only[Bool.false_eq_true,if_false] at hsn;simp+decide[I64];exact⟨by omega,by unfold maxLen;omega,⟨by omega,by omega⟩,k+1,H,by omega,by omega,by rw[hsn];simp⟩
 |true=>
  rw[C] at hsn;simp only[if_true] at hsn;obtain⟨j,hj,ej⟩:=K (F C);have J:j<r.dst.length:=by omega
  obtain⟨y,ey⟩:∃ y,r.dst[j]=y:=⟨_,rfl⟩;have e2:r.dst[j]?=some y:=by rw[List.getElem?_eq_getElem J,ey]
  rw[ej,Int.toNat_natCast,e2,Option.getD_some] at hsn;rw[ej] at Z;have O:(j:Int)<r.dst.length:=by omega
  simp+decide
  refine scp Z ?_
  simp+decide[int,J,O,ey,I64];by_cases I:y=0
  .rw[if_pos I,List.append_nil] at hsn
   simp+decide[I];exact⟨⟨by omega,by omega⟩,k+1,H,by omega,by omega,by rw[hsn]⟩
  .rw[if_neg I] at hsn
   simp+decide[I];exact⟨by omega,by unfold maxLen;omega,⟨by omega,by omega⟩,k+1,H,by omega,by omega,by rw[hsn];simp⟩
theorem SN(inv:List Phon)(r:Rule)(w:List Int):(ZM inv r w).length<=w.length:=by
 rw[<-CV];exact Uk inv r w _ (Nat.le_refl _)
def qY(inv:List Phon)(rs:List Rule)(w:List Int):List Int:=rs.foldl (λw r=>ZM inv r w) w
theorem Jj(inv:List Phon):∀ (rs:List Rule) (w:List Int),(qY inv rs w).length<=w.length
 | [],w=>Nat.le_refl _
 |r::rs,w=>by
  have H:=Jj inv rs (ZM inv r w);have G:=SN inv r w;unfold qY at H ⊢;rw[List.foldl_cons];omega
theorem CW(inv:List Phon)(K:inv.length<2^62)(rs:List Rule)(J:∀ r∈rs,RuleOk r)(L:rs.length<2^40)(w:List Int)(M:w.length<2^40):
  zl Tryz.prog 209 [.agg [zP inv],xo rs,ints w] (ints (qY inv rs w)):=by
 refine zp mixed Tryz.func209 rfl c_209 ?_
 simp+decide[Tryz.f209,ints,xo]
 refine zu mixed (λk:Nat=>{n:=21,next:=2,slots:=[(2,.d (ints (qY inv (rs.take k) w))),(3,.bp 0 0),(9,.d (xo rs)),(10,.d (int rs.length)),(11,.d (int k))],own:=[(0,.box 24 [.d (zP inv)])]})
  (λk=>k<=rs.length) (λk=>rs.length-k) 0 (by simp) (by simp+decide[int,ints,xo,qY]) ?_
 intro k O
 by_cases H:k<rs.length
 case neg=>
  have:k=rs.length:=by omega
  subst this;rw[List.take_length];simp+decide[int,ints,xo]
 have G:(k:Int)<rs.length:=by omega
 have hsn:qY inv (rs.take (k+1)) w=ZM inv rs[k] (qY inv (rs.take k) w):=by unfold qY;rw[yH H,List.foldl_append];rfl
 have E:=Jj inv (rs.take k) w
 have F:=J rs[k] (List.getElem_mem H)
 obtain⟨r,er⟩:∃ r,rs[k]=r:=⟨_,rfl⟩
 have e1:rs[k]?=some r:=by rw[List.getElem?_eq_getElem H,er]
 rw[er] at hsn F
 generalize qY inv (rs.take k) w=u at hsn E
 have Q:=SL inv K r F u (by omega)
 simp+decide[int,ints,xo,Rule.row,H,G,er]
 refine zh Q ?_
 simp+decide[ints,I64]
 exact⟨⟨by omega,by omega⟩,k+1,H,by omega,by rw[hsn],by omega⟩
structure LangOk(g:Lang):Prop where
 lex:LexFit g.lex
 inv:g.inv.length<2^40
 rules:(∀ r∈g.rules,RuleOk r)/\g.rules.length<2^40
 net:Ue g.net
def vx(l:List Ent)(p:Prt):Int:=
 if (zJ l p.entry).2=false then 9 else if (qX l p).2.2=false then 2 else if p.sense<0\/(qk l p.entry).length<=p.sense then 22 else 0
def jN(l:List Ent):List Prt->Int
 | []=>0
 |p::ps=>if vx l p=0 then jN l ps else vx l p
theorem SQ{l:List Ent}{ps:List Prt}{k:Nat}(h:k<ps.length):jN l (ps.drop k)=if vx l ps[k]=0 then jN l (ps.drop (k+1)) else vx l ps[k]:=by
 rw[List.drop_eq_getElem_cons h];rfl
def vK(g:Lang)(ps:List Prt):Int:=
 if ps.length=0 then 4 else if 4<ps.length then 11 else if jN g.lex ps≠0 then jN g.lex ps else if ZK g.net (yW g.lex ps)=false then 21 else if 24<(y9 g.lex ps).length then 5 else 0
theorem CX(g:Lang)(V:LangOk g)(ps:List Prt)(X:ps.length<2^20):zl Tryz.prog 41 [g.d,zZ ps] (int (vK g ps)):=by
 refine zp mixed Tryz.func41 rfl c_41 ?_
 obtain⟨R,Y⟩:∃ R,vK g ps=R:=⟨_,rfl⟩
 rw[Y]
 unfold vK at Y
 by_cases Z:ps.length=0
 .rw[if_pos Z] at Y
  subst Y;simp+decide[Tryz.f41,Lang.d,zZ,zm,int,Z];done
 rw[if_neg Z] at Y
 by_cases A:4<ps.length
 .rw[if_pos A] at Y
  subst Y;have E:(4:Int)<ps.length:=by omega
  have O:¬(ps.length:Int)=0:=by omega
  simp+decide[Tryz.f41,Lang.d,zZ,zm,int,Z,E];done
 rw[if_neg A] at Y
 have E:¬(4:Int)<ps.length:=by omega
 have O:¬(ps.length:Int)=0:=by omega
 simp+decide[Tryz.f41,Lang.d,zZ,zm,int,Z,E]
 refine zu mixed (λk:Nat=>{n:=73,next:=2,slots:=[(2,.bp 0 0),(3,.bp 1 0),(21,.d (zm ps)),(22,.d (int ps.length)),(23,.d (int k))],own:=[(0,.box 36 (zq g.d)),(1,.box 39 [.d (zm ps)])]})
  (λk=>k<=ps.length/\jN g.lex (ps.drop k)=jN g.lex ps) (λk=>ps.length-k) 0 (by simp) (by simp+decide[int,zm,zq,Lang.d]) ?_
 intro k ⟨B,K⟩
 by_cases G:k<ps.length
 case neg=>
  have:k=ps.length:=by omega
  subst this;rw[List.drop_length] at K;rw[<-K] at Y;have C:jN g.lex []=0:=rfl
  rw[C,if_neg (by simp)] at Y
  have I:=SD g V.lex ps X;have N:=CN g V.lex ps X;have Q:=Ui g.lex ps;have P:=Si g.net V.net (yW g.lex ps) (by omega)
  have T:=Uj V.lex ps;simp+decide[int,zm,zq,Lang.d];refine scp I ?_
  simp+decide
  refine scp P ?_
  cases M:ZK g.net (yW g.lex ps) with
  |false=>
   rw[if_pos M] at Y;subst Y;simp+decide
  |true=>
   rw[if_neg (by rw[M];decide)] at Y
   simp+decide
   refine zh N ?_
   by_cases S:24<(y9 g.lex ps).length
   .rw[if_pos S] at Y
    subst Y;have J:(24:Int)<(y9 g.lex ps).length:=by omega
    simp+decide[ints,J]
   .rw[if_neg S] at Y
    subst Y;have J:¬(24:Int)<(y9 g.lex ps).length:=by omega
    simp+decide[ints,J]
 have L:(k:Int)<ps.length:=by omega
 have hsn:=SQ (l:=g.lex) G
 rw[K] at hsn
 obtain⟨p,ep⟩:∃ p,ps[k]=p:=⟨_,rfl⟩
 have e1:ps[k]?=some p:=by rw[List.getElem?_eq_getElem G,ep]
 rw[ep] at hsn
 have W:=Jg g.lex p.entry V.lex.len
 have hF:=Uh g V.lex p
 have hS:=Jh g.lex p.entry V.lex.len V.lex.senses
 unfold vx at hsn
 generalize zJ g.lex p.entry=r1 at W hsn
 generalize qX g.lex p=r2 at hF hsn
 generalize qk g.lex p.entry=ss at hS hsn
 obtain⟨e,ok⟩:=r1
 obtain⟨e2,w,ok2⟩:=r2
 simp only at hsn
 simp+decide[int,zm,Prt.row,G,L,ep,zq,Lang.d]
 refine zh W ?_
 cases ok with
 |false=>
  have:R=9:=by rw[<-Y,hsn];simp
  subst this;simp+decide[int,Ent.row]
 |true=>
  simp+decide[int,Ent.row];refine zh hF ?_
  cases ok2 with
  |false=>
   have:R=2:=by rw[<-Y,hsn];simp
   subst this;simp+decide[int,kF,Ent.row]
  |true=>
   simp+decide[int,kF,Ent.row];by_cases H:p.sense<0
   .have:R=22:=by rw[<-Y,hsn];simp[H]
    subst this;simp+decide[H];intro h;omega
   .simp+decide[H]
    intro _;refine scp hS ?_
    by_cases F:(ss.length:Int)<=p.sense
    .have:R=22:=by rw[<-Y,hsn];simp[H,F]
     subst this;simp+decide[ye,F]
    .have hd:jN g.lex (ps.drop (k+1))=jN g.lex ps:=by rw[hsn];simp[H,F]
     simp+decide[ye,F];exact⟨⟨by omega,by omega⟩,k+1,⟨G,hd⟩,by omega,by simp⟩
def vm(g:Lang)(ps:List Prt):List Int×Int:=
 if vK g ps≠0 then ([],vK g ps) else if (qY g.inv g.rules (y9 g.lex ps)).length=0 then ([],23) else (qY g.inv g.rules (y9 g.lex ps),0)
theorem SR(g:Lang)(E:LangOk g)(ps:List Prt)(K:ps.length<2^20):zl Tryz.prog 170 [g.d,zZ ps] (.tup [ints (vm g ps).1,int (vm g ps).2]):=by
 have J:=CX g E ps K
 have L:=CN g E.lex ps K
 have H:vK g ps=0->(y9 g.lex ps).length<2^40:=by
  intro h;unfold vK at h;repeat' split at h
  all_goals first | omega | skip
 have M:=λh=>CW g.inv (by have:=E.inv;omega) g.rules E.rules.1 E.rules.2 (y9 g.lex ps) (H h)
 have G:=Jj g.inv g.rules (y9 g.lex ps)
 unfold vm
 generalize vK g ps=R at J M H ⊢
 refine zp mixed Tryz.func170 rfl c_170 ?_
 simp+decide[Tryz.f170,int,Lang.d,zZ]
 refine zh J ?_
 by_cases O:R=0
 .subst O
  have M:=M rfl;have H:=H rfl;generalize qY g.inv g.rules (y9 g.lex ps)=v at M G ⊢;simp+decide[int];refine scp L ?_
  simp+decide[ints];refine scp M ?_
  by_cases Q:v.length=0
  .simp+decide[ints,List.length_eq_zero_iff.mp Q]
  .have F:v≠[]:=λh=>Q (by rw[h];rfl)
   simp+decide[ints,Q,F]
 .simp+decide[int,ints,O]
theorem CY(g:Lang)(H:LangOk g)(w:List Int)(G:w.length<2^40)(ps:List Prt)(F:ps.length<2^20):zl Tryz.prog 120 [g.d,ints w,zZ ps] (.bool (decide ((vm g ps).2=0/\(vm g ps).1=w))):=by
 have E:=SR g H ps F
 have K:=Cf (vm g ps).1 w (by omega)
 generalize vm g ps=q at E K ⊢
 obtain⟨v,e⟩:=q
 refine zp mixed Tryz.func120 rfl c_120 ?_
 simp+decide[Tryz.f120,int,Lang.d,zZ]
 refine zh E ?_
 by_cases J:e=0
 .subst J
  simp+decide[int,ints];refine zh K ?_
  simp+decide
 .simp+decide[int,ints,J]
def qJ(l:List Ent):Nat->Int->List Int
 |0,_=>[]
 |f+1,id=>if (zJ l id).2=true then id::(if (zJ l id).1.main=0 then [] else qJ l f (zJ l id).1.main) else []
theorem SS{l:List Ent}{id:Int}(h:(zJ l id).2=true):(zJ l id).1.id=id:=by
 unfold zJ at h ⊢
 cases H:l.find? (·.id=id) with
 |none=>rw[H] at h;cases h
 |some e=>have:=List.find?_some H;simpa using this
theorem SU(l:List Ent)(id:Int)(J:l.length<2^40):zl Tryz.prog 109 [zj l,int id] (ints (qJ l (l.length+1) id)):=by
 refine zp mixed Tryz.func109 rfl c_109 ?_
 simp+decide[Tryz.f109,int,ints]
 refine zh (U8 l id (by omega)) ?_
 simp+decide[int]
 refine zu mixed (λx:List Int×Int=>{n:=42,next:=2,slots:=[(0,.d (zj l)),(5,.ar 1),(6,.d (int (xe l x.2)))],own:=[(1,.arr 3 1 (x.1.map λn=>[int n]))],moved:=[1]})
  (λx=>x.1++qJ l (l.length+1-x.1.length) x.2=qJ l (l.length+1) id/\x.1.length<=l.length+1) (λx=>l.length+1-x.1.length) ([],id) (by simp) (by simp+decide[int]) ?_
 rintro⟨out,x⟩ ⟨L,M⟩
 simp only at L M
 have O:xe l x<0->(zJ l x).2=false:=by
  intro h;rcases kE l x with⟨_,Q⟩ | ⟨j,hj,T,_⟩
  .rw[Q]
  .omega
 by_cases G:xe l x<0
 .have V:¬0<=xe l x:=by omega
  have X:qJ l (l.length+1) id=out:=by
   rw[<-L];have:qJ l (l.length+1-out.length) x=[]:=by
    cases l.length+1-out.length with
    |zero=>rfl
    |succ f=>unfold qJ;rw[if_neg (by rw[O G];decide)]
   rw[this,List.append_nil]
  rw[X];simp+decide[int,V]
 have V:0<=xe l x:=by omega
 by_cases F:out.length<=l.length
 case neg=>
  have:out.length=l.length+1:=by omega
  have X:qJ l (l.length+1) id=out:=by
   rw[<-L,this,Nat.sub_self];exact List.append_nil _
  rw[X];have H:¬(out.length:Int)<=l.length:=by omega
  simp+decide[int,V,zj,H]
 rcases kE l x with⟨T,_⟩ | ⟨j,hj,T,Q⟩
 .exact absurd T (by omega)
 have hid:l[j].id=x:=by have:=SS (l:=l) (id:=x) (by rw[Q]);rw[Q] at this;exact this
 obtain⟨e,ee⟩:∃ e,l[j]=e:=⟨_,rfl⟩
 have e1:l[j]?=some e:=by rw[List.getElem?_eq_getElem hj,ee]
 rw[ee] at hid Q
 have H:(out.length:Int)<=l.length:=by omega
 have E:(j:Int)<l.length:=by omega
 have hs:qJ l (l.length+1-out.length) x=x::(if e.main=0 then [] else qJ l (l.length+1-(out.length+1)) e.main):=by
  have:l.length+1-out.length=(l.length+1-(out.length+1))+1:=by omega
  rw[this];conv=>lhs;unfold qJ
  rw[if_pos (by rw[Q]),Q]
 rw[hs] at L
 have K:=U8 l e.main (by omega)
 by_cases Y:e.main=0
 .rw[if_pos Y] at L
  rw[<-L];simp+decide[int,ints,zj,H,T,hj,E,ee,hid,Y,Ent.row];exact⟨by omega,by unfold maxLen;omega⟩
 .rw[if_neg Y] at L
  simp+decide[int,ints,zj,H,T,hj,E,ee,hid,Y,Ent.row];refine⟨by omega,by unfold maxLen;omega,zh K ?_⟩
  simp+decide[int];exact⟨out++[x],e.main,⟨by rw[List.length_append,List.append_assoc];exact L,by simp;omega⟩,by simp;omega,rfl,by simp⟩
def uU(l:List Ent):List Int->List Sens
 | []=>[]
 |x::ws=>if (zJ l x).1.senses≠[] then (zJ l x).1.senses else uU l ws
theorem Ul(l:List Ent):∀ f id,(wo l f id).getD []=uU l (qJ l f id)
 |0,_=>rfl
 |f+1,id=>by
  have ih:=Ul l f (zJ l id).1.main;unfold wo qJ;by_cases h:(zJ l id).2=true
  .rw[if_pos h,if_pos h]
   by_cases hs:(zJ l id).1.senses≠[]
   .rw[if_pos hs];unfold uU;rw[if_pos hs];rfl
   .rw[if_neg hs];unfold uU;rw[if_neg hs]
    by_cases H:(zJ l id).1.main=0
    .rw[if_pos H,if_pos H];rfl
    .rw[if_neg H,if_neg H];exact ih
  .rw[if_neg h,if_neg h];rfl
theorem CZ(m q j:Nat):(m ||| (1 <<< q)).testBit j=(m.testBit j || decide (q=j)):=by
 rw[Nat.testBit_or,Nat.one_shiftLeft,Nat.testBit_two_pow]
structure NetL(n:Nett):Prop where
 lo:1<=n.states
 hi:n.states<=3
 steps:∀ s∈n.steps,(0<=s.src/\s.src<n.states)/\(0<=s.dst/\s.dst<n.states)/\1<=s.cls
 final:∀ q∈n.final,0<=q/\q<n.states
 few:n.steps.length<2^40
 few2:n.final.length<2^40
theorem NetL.ok{n:Nett}(h:NetL n):Ue n:=by
 refine⟨λs hs=>?_,λq hq=>?_,h.few,h.few2⟩
 .have:=h.steps s hs;have:=h.hi;omega
 .have:=h.final q hq;have:=h.hi;omega
def Jk(m:Nat)(c:Int)(out:Nat)(s:Stp):Nat:=if uR m s.src=true/\(c=0\/s.cls=c) then vj out s.dst else out
def kG(l:List Stp)(m:Nat)(c:Int):Nat:=l.foldl (Jk m c) 0
def ZN(S a b:Nat):Bool:=(List.range S).any λq=>a.testBit q&&b.testBit q
theorem SV{S m:Nat}{q:Int}(H:m<2^S)(G:0<=q)(F:q<S):vj m q<2^S:=by
 unfold vj
 refine Nat.or_lt_two_pow H ?_
 rw[Nat.one_shiftLeft]
 exact Nat.pow_lt_pow_right (by omega) (by omega)
theorem SX{n:Nett}(H:NetL n)(m:Nat){c:Int}(G:1<=c):kG n.steps m c=yT n.steps m c:=by
 unfold kG yT
 congr 1
 funext out s
 unfold Jk qc
 have:¬c=0:=by omega
 simp[this]
theorem B0{m:Nat}{c:Int}{S:Nat}:∀ (l:List Stp) (out:Nat),(∀ s∈l,0<=s.dst/\s.dst<S)->out<2^S->l.foldl (qc m c) out<2^S
 | [],out,_,h=>h
 |s::l,out,H,h=>by
  rw[List.foldl_cons];refine B0 l _ (λx G=>H x (List.mem_cons_of_mem _ G)) ?_
  have:=H s (List.mem_cons_self ..)
  unfold qc;split
  .exact SV h this.1 this.2
  .exact h
theorem B2{n:Nett}(H:NetL n)(m:Nat)(c:Int):yT n.steps m c<2^n.states.toNat:=
 B0 _ _ (λs hs=>by have:=(H.steps s hs).2.1;have:=H.lo;omega) (Nat.two_pow_pos _)
structure LangL(g:Lang):Prop extends LangOk g where
 light:NetL g.net
structure RuleL(r:Rule):Prop extends RuleOk r where
 once:r.src.Nodup
def SY(w:List Int):Prop:=∀ x∈w,x≠0
structure LangR(g:Lang):Prop extends LangL g where
 rulesL:∀ r∈g.rules,RuleL r
 nz:∀ e∈g.lex,∀ w∈e.forms,SY w
theorem B5(a b:List Int)(L:a.length<2^62)(M:b.length<2^62):zl Tryz.prog 84 [ints a,ints b] (.bool (decide (a=b))):=by
 refine zp mixed Tryz.func84 rfl c_84 ?_
 by_cases O:a.length=b.length
 case neg=>
  have:¬a=b:=λh=>O (by rw[h])
  have J:¬(a.length:Int)=b.length:=by omega
  simp+decide[Tryz.f84,ints,J,this]
 have J:(a.length:Int)=b.length:=by omega
 simp+decide[Tryz.f84,ints,O]
 refine zu mixed (λk:Nat=>{n:=26,next:=0,slots:=[(0,.d (ints a)),(1,.d (ints b)),(12,.d (int b.length)),(13,.d (int k))],own:=[],moved:=[]})
  (λk=>k<=a.length/\a.take k=b.take k) (λk=>a.length-k) 0 (by simp) (by simp+decide[int,ints]) ?_
 intro k ⟨Q,T⟩
 by_cases H:k<a.length
 case neg=>
  have:k=a.length:=by omega
  subst this;rw[List.take_length,O,List.take_length] at T;subst T;simp+decide[int,ints]
 have G:(k:Int)<a.length:=by omega
 have E:k<b.length:=by omega
 have F:(k:Int)<b.length:=by omega
 obtain⟨x,ex⟩:∃ x,a[k]=x:=⟨_,rfl⟩
 obtain⟨y,ey⟩:∃ y,b[k]=y:=⟨_,rfl⟩
 have ex1:a[k]?=some x:=by rw[List.getElem?_eq_getElem H,ex]
 have ey1:b[k]?=some y:=by rw[List.getElem?_eq_getElem E,ey]
 by_cases K:x=y
 .subst K
  simp+decide[int,ints,H,G,E,F,ex,ey];exact⟨⟨by omega,by omega⟩,k+1,⟨H,by rw[yH H,yH E,T,ex,ey]⟩,by omega,by omega⟩
 .have:¬a=b:=by
   intro h;subst h;exact K (by rw[<-ex,<-ey])
  simp+decide[int,ints,H,G,E,F,ex,ey,K,this]
def kH(g:Lang)(w:List Int)(ps:List Prt):Bool:=decide ((vm g ps).2=0/\(vm g ps).1=w)
end Go.V
namespace Go.V
open Go Go.Proofs Go.RowKit Go.WideShapes
mutual
def Cap(M:Nat):D->Prop
 |.str b=>b.size<=M
 |.sl l=>l.length<=M/\Z2 M l
 |_=>True
def Z2(M:Nat):List (List D)->Prop
 | []=>True
 |r::rs=>Caps M r/\Z2 M rs
def Caps(M:Nat):List D->Prop
 | []=>True
 |d::ds=>Cap M d/\Caps M ds
end
def js(M:Nat):D->Prop
 |.agg l=>Caps M l
 |d=>Cap M d
theorem SZ{M:Nat}{d:D}(h:Cap M d):(∀ l,d≠.agg l)->js M d:=by
 intro H
 cases d <;> first | exact h | exact absurd rfl (H _)
theorem Caps.app{M:Nat}:∀ {a b:List D},Caps M a->Caps M b->Caps M (a++b)
 | [],b,_,h=>h
 |d::a,b,h,H=>by
  simp only[Caps,List.cons_append] at h ⊢;exact⟨h.1,Caps.app h.2 H⟩
theorem B6{M:Nat}:∀ {l:List (List D)},(∀ i (h:i<l.length),Caps M l[i])->Z2 M l
 | [],_=>by simp[Z2]
 |r::rs,h=>by
  simp only[Z2];exact⟨h 0 (by simp),B6 λi hi=>h (i+1) (by simp;omega)⟩
structure BulkFn{H:Type}(bulk:DataW H->Nat):Prop where
 str:∀ bytes,bytes.length<=bulk (.lit (.string bytes))
 sl:∀ es rest,es.length<=bulk (.slice es rest)
 el:∀ es rest e,e∈es->bulk e<=bulk (.slice es rest)
 part:∀ ps p,p∈ps->bulk p<=bulk (.agg ps)
section
variable {H:Type} {enc:TypeId×Value->H} {P:Program} {w:World} {base:Nat} {spare:Nat->Bool} {held:Bool} {bulk:DataW H->Nat}
theorem B7{g:Nat->Option (List Sh)}{m:Nat}{cs:List Value}{M:Nat}
  (Q:∀ (f:Field) (l:List Sh),g f.type=some l->∀ x,DataW.trod enc P w base spare held m f.type ((cs.drop f.offset).take (P.cellsOf f.type))=some x->bulk x.1<=M->∃ ds,y8 ds l/\Caps M ds/\zi w Ez ds ((cs.drop f.offset).take (P.cellsOf f.type))) :
  ∀ (fs:List Field) (off:Nat) (shs:List Sh),Qr g P fs off=some shs->off+shs.length=cs.length ->
   (∀ f∈fs,∃ x,DataW.trod enc P w base spare held m f.type ((cs.drop f.offset).take (P.cellsOf f.type))=some x/\bulk x.1<=M)->∃ ds,y8 ds shs/\Caps M ds/\zi w Ez ds (cs.drop off)
 | [],off,shs,h,T,_=>by
  simp only[Qr,Option.some.injEq] at h;subst h;simp at T
  exact⟨[],by simp[y8],by simp[Caps],by simp[zi,List.drop_eq_nil_of_le,T]⟩
 |f::r,off,shs,h,T,V=>by
  simp only[Qr] at h;split at h
  .rename_i ho
   split at h
   .rename_i l E
    split at h
    .rename_i hlen
     split at h
     .rename_i m' X
      cases h;obtain⟨x,Y,K⟩:=V f (by simp)
      obtain⟨ds,J,L,O⟩:=Q f l E x Y K;obtain⟨ds',H,G,F⟩:=B7 Q r (off+l.length) m' X (by simp at T;omega) λf' hf'=>V f' (by simp[hf'])
      refine⟨ds++ds',J.app H,L.app G,?_⟩
      have e:cs.drop off=(cs.drop off).take (P.cellsOf f.type)++cs.drop (off+l.length):=by
       rw[hlen,<-List.drop_drop,List.take_append_drop]
      rw[e];subst ho;exact O.app F
     .cases h
    .cases h
   .cases h
  .cases h
theorem Um(S:BulkFn bulk){M:Nat}:∀ (fuel n t:Nat) (shs:List Sh) (cs:List Value) (x:DataW H×List MemPlace),shapes P n t=some shs->DataW.trod enc P w base spare held fuel t cs=some x->bulk x.1<=M ->
  ∃ ds,y8 ds shs/\Caps M ds/\zi w Ez ds cs
 |0,_,_,_,_,_,_,h,_=>by simp[DataW.trod] at h
 |fuel+1,n,t,shs,cs,x,hs,h,W=>by
  cases n with
  |zero=>simp[shapes] at hs
  |succ n=>
  simp only[shapes] at hs;split at hs
  .rename_i k ht
   cases hs;obtain⟨m,rfl,_,hw⟩:=DataW.trod_int ht h;exact⟨[.int k m],by simp[y8,yN,hw],by simp[Caps,Cap],by simp only[zi,R];exact⟨_,_,rfl,rfl,rfl,rfl⟩⟩
  .rename_i ht
   cases hs;obtain⟨b,rfl,_⟩:=DataW.trod_bool ht h;exact⟨[.bool b],by simp[y8,yN],by simp[Caps,Cap],by simp only[zi,R];exact⟨_,_,rfl,rfl,rfl,rfl⟩⟩
  .rename_i ht
   cases hs;obtain⟨s,rfl,rfl,hw⟩:=DataW.trod_string ht h;have Q:=S.str s.data.toList;have e0:s.data.toList.length=s.size:=by rw[Array.length_toList];rfl
   exact⟨[.str s],by simp[y8,yN,hw],by simp only[Caps,Cap,and_true];simp only at W;omega,by simp only[zi,R];exact⟨_,_,rfl,rfl,rfl,rfl⟩⟩
  .rename_i e ht
   split at hs
   .rename_i l hl
    split at hs
    .rename_i hlen
     cases hs;rcases DataW.trod_slice ht h with⟨rfl,_⟩ | ⟨a,len,cap,elems,rest,m,hm,rfl,rfl,_,C,Y,I,K,_⟩
     .exact⟨[.sl []],by simp[y8,yN,kC],by simp[Caps,Cap,Z2],by simp only[zi,R];exact⟨_,_,rfl,rfl,⟨none,0,rfl,by simp,by simp,λ_=>rfl,λh=>absurd rfl h⟩,rfl⟩⟩
     .cases hm
      have cellf:∀ i,i<len->∃ cs' x',w.cells? base (a.add (i*P.cellsOf e)) (P.cellsOf e)=some cs'/\DataW.trod enc P w base spare held fuel e cs'=some x'/\bulk x'.1<=M:=by
       intro i hi;have h1:=K i hi;have h2:elems[i]?=some (elems[i]'(by omega)):=List.getElem?_eq_getElem (by omega)
       rw[h2,Option.bind_eq_some_iff] at h1;obtain⟨cs',J,L⟩:=h1;exact⟨cs',_,J,L,Nat.le_trans (S.el _ _ _ (List.mem_map.mpr ⟨_,List.getElem_mem _,rfl⟩)) W⟩
      have E:0<len->a.spot=none/\a.block<w.heap.size:=by
       intro hp;obtain⟨cs',_,J,_,_⟩:=cellf 0 hp;obtain⟨_,T,G⟩:=World.cells?_some J;have c0:=G 0 (by omega)
       have:cs'[0]?=some (cs'[0]'(by omega)):=List.getElem?_eq_getElem (by omega)
       rw[this] at c0;exact⟨by simpa[Addr.add] using World.cell?_spot c0,by simpa[Addr.add] using cell_lt c0⟩
      have each:∀ i,i<len->∃ ds,(y8 ds l/\Caps M ds)/\zX w Ez a.block ds (a.off+i*P.cellsOf e):=by
       intro i hi;obtain⟨q3,q4⟩:=E (by omega)
       obtain⟨cs',x',J,L,O⟩:=cellf i hi;obtain⟨ds,hf,Z,hr⟩:=Um S fuel n e l cs' _ hl L O;obtain⟨_,T,G⟩:=World.cells?_some J;refine⟨ds,⟨hf,Z⟩,C9 hr λj hj=>?_⟩
       have:=G j (by rw[hr.len] at hj;omega)
       rw[<-this];obtain⟨ab,ao,asp⟩:=a;subst q3;rw[add_plain,add_plain]
      obtain⟨rows,V,F⟩:=Cd len each;have A:=S.sl (elems.map (·.1)) (rest.map (·.1));rw[List.length_map] at A;refine⟨[.sl rows],by simp[y8,yN,V,Cc λi hi=>(F i hi).1.1];omega,by simp only[Caps,Cap,and_true];exact⟨by simp only at W;omega,B6 λi hi=>(F i hi).1.2⟩,?_⟩
      simp only[zi,R];refine⟨_,_,rfl,rfl,⟨some a,cap,by rw[V],by omega,Y,λh=>by simp at h,λX=>?_⟩,rfl⟩
      have h0:0<rows.length:=List.length_pos_iff.2 X
      obtain⟨q1,q2⟩:=F 0 h0;obtain⟨q3,q4⟩:=E (by omega)
      have Q:rowLen rows=P.cellsOf e:=by
       cases hr:rows with
       |nil=>exact absurd hr X
       |cons r rs => 
        subst hr;simp only[rowLen];have:=q1.1.len
        simp at this
        omega
      refine⟨a.block,a.off,?_,λh=>h,q4,?_⟩
      .obtain⟨ab,ao,asp⟩:=a
       subst q3;rfl
      .rw[Q]
       exact Cb λi hi=>⟨by rw[(F i hi).1.1.len];exact hlen.1,(F i hi).2⟩
    .cases hs
   .cases hs
  .rename_i fs ht
   split at hs
   .rename_i l hl
    split at hs
    .rename_i hlen
     cases hs;obtain⟨xs,m,hm,B,T,N,hx⟩:=DataW.trod_struct ht h;cases hm;have:=B7 (bulk:=bulk) (M:=M) (g:=shapes P n) (m:=fuel) (cs:=cs) (P:=P) (w:=w) (enc:=enc) (base:=base) (spare:=spare) (held:=held) (λf l' hf x hx O=>Um S fuel n f.type l' _ x hf hx O) fs.toList 0 shs hl (by omega) ?_
     .simpa using this
     .intro f hf
      obtain⟨i,hi,rfl⟩:=List.getElem_of_mem hf;have h1:=hx i fs[i] (by simp at hi;simp[hi])
      rw[List.getElem?_eq_getElem (by simp at hi;omega)] at h1
      refine⟨_,by simpa using h1,Nat.le_trans (S.part _ _ (List.mem_map.mpr ⟨_,List.getElem_mem _,rfl⟩)) (by rw[B] at W;exact W)⟩
    .cases hs
   .cases hs
  .cases hs
theorem T0(K:BulkFn bulk){M:Nat}{n t:Nat}{v:Value}{d:DataW H}{ps:List MemPlace}{r:Reach}{b0:Nat}(hs:(shapes P n t).isSome=true)(J:Value.okWide P w r b0 t v)(h:DataW.Trod enc P w base spare held t v d ps)(L:bulk d<=M):
  ∃ x,Jd P n t x/\js M x/\R w Ez x v:=by
 obtain⟨fuel,O⟩:=h
 cases Q:shapes P n t with
 |none=>simp[Q] at hs
 |some shs=>
 obtain⟨ds,T,V,X⟩:=Um K fuel n t shs _ _ Q O L
 unfold Jd
 cases n with
 |zero=>simp[shapes] at Q
 |succ n=>
 have G:=Q
 simp only[shapes] at Q
 have scalar:∀ s,shs=[s]->v.cells = #[v]->∃ x,(yN x s/\js M x)/\R w Ez x v:=by
  intro s e E;subst e;rw[E] at X;cases ds with
  |nil=>simp[y8] at T
  |cons d ds=>
   simp only[zi] at X;obtain⟨u,us,e,_,Y,_⟩:=X;simp only[y8] at T;obtain⟨s',r',e',F,_⟩:=T;cases e'
   simp at e
   obtain⟨rfl,rfl⟩:=e;simp only[Caps] at V;exact⟨d,⟨F,SZ V.1 (by intro l e;subst e;simp[yN] at F)⟩,Y⟩
 split at Q
 .rename_i k Z
  cases Q;obtain⟨m,rfl⟩:=okWide_int Z J;obtain⟨x,A⟩:=scalar _ rfl rfl;exact⟨x,by rw[Z];exact⟨_,G,A.1.1⟩,A.1.2,A.2⟩
 .rename_i Z
  cases Q;obtain⟨m,rfl⟩:=okWide_bool Z J;obtain⟨x,A⟩:=scalar _ rfl rfl;exact⟨x,by rw[Z];exact⟨_,G,A.1.1⟩,A.1.2,A.2⟩
 .rename_i Z
  cases Q;obtain⟨m,rfl⟩:=okWide_string Z J;obtain⟨x,A⟩:=scalar _ rfl rfl;exact⟨x,by rw[Z];exact⟨_,G,A.1.1⟩,A.1.2,A.2⟩
 .rename_i e Z
  split at Q
  .split at Q
   .cases Q
    obtain⟨a,len,cap,rfl⟩:=okWide_slice Z J;obtain⟨x,A⟩:=scalar _ rfl rfl;exact⟨x,by rw[Z];exact⟨_,G,A.1.1⟩,A.1.2,A.2⟩
   .cases Q
  .cases Q
 .rename_i fs Z
  obtain⟨cs,rfl,_⟩:=okWide_struct Z J;refine⟨.agg ds,by rw[Z];exact⟨ds,shs,rfl,G,T⟩,by simp only[js];exact V,?_⟩
  simp only[R];exact⟨cs.toList,by simp,X⟩
 .cases Q
theorem B8(O:BulkFn bulk){M:Nat}{n:Nat}{r:Reach}{b0:Nat}:∀ {ts:List Nat} {vs:List Value} {ds:List (DataW H)} {ps:List MemPlace},(∀ t∈ts,(shapes P n t).isSome=true) ->
  (∀ (j:Nat) (t:Nat) (v:Value),ts[j]?=some t->vs[j]?=some v->Value.okWide P w r b0 t v)->DataW.TrodAll enc P w base spare held ts vs ds ps->(∀ d∈ds,bulk d<=M)->∃ xs,YL P n ts xs/\(∀ x∈xs,js M x)/\zF w Ez xs vs
 | [],vs,ds,ps,_,_,h,_=>by
  cases vs with
  |nil=>exact⟨[],by simp[YL],by simp,by simp[zF]⟩
  |cons v vs=>cases ds <;> simp[DataW.TrodAll] at h
 |t::ts,vs,ds,ps,hs,Q,h,T=>by
  cases vs with
  |nil=>cases ds <;> simp[DataW.TrodAll] at h
  |cons v vs=>
   cases ds with
   |nil=>simp[DataW.TrodAll] at h
   |cons d ds=>
    simp only[DataW.TrodAll] at h;obtain⟨p,q,V,X,_⟩:=h;obtain⟨x,G,F,E⟩:=T0 O (hs t (by simp)) (Q 0 t v rfl rfl) V (T d (by simp))
    obtain⟨xs,K,J,L⟩:=B8 O (ts:=ts) (λt Y=>hs t (by simp[Y])) (λj t v h Z=>Q (j+1) t v (by simpa using h) (by simpa using Z)) X (λd A=>T d (by simp[A]))
    exact⟨x::xs,by simp only[YL];exact⟨x,xs,rfl,G,K⟩,by intro z B;rcases List.mem_cons.mp B with e | e;rw[e];exact F;exact J z e,by simp only[zF];exact⟨v,vs,rfl,E,L⟩⟩
end
end Go.V
namespace Go.V
open Go Go.Proofs Go.Lib
def zC(s:ByteArray)(k:Nat):Nat:=(s.data.toList.getD k 0).toNat
theorem Z3(s:ByteArray)(k:Nat):byteAt s (k:Int)=(zC s k:Int):=by simp[byteAt,zC]
theorem wrap_u8(n:Int):IntKind.wrap .u8 n=n%256:=by
 simp[IntKind.wrap,IntKind.bits,IntKind.signed]
theorem ui{n:Int}{m:Nat}(h:n=(m:Int)):UInt8.ofNat (IntKind.wrap .u8 n).toNat=UInt8.ofNat m:=by
 subst h
 apply UInt8.toNat_inj.1
 rw[wrap_u8]
 simp only[UInt8.toNat_ofNat']
 omega
theorem wrap_i64{n:Int}(h:I64 n):IntKind.wrap .i64 n=n:=by
 obtain⟨H,G⟩:=h
 simp[IntKind.wrap,IntKind.bits,IntKind.signed]
 split <;> omega
theorem B9(s:ByteArray)(k:Nat):IntKind.wrap .i64 (zC s k:Int)=(zC s k:Int):=by
 have:zC s k<256:=UInt8.toNat_lt _
 exact wrap_i64 ⟨by omega,by omega⟩
theorem T8(p:Nat):zl Tryz.prog 257 [int p] (.bool (decide (km p))):=by
 refine zp mixed Tryz.func257 rfl c_257 ?_
 by_cases H:(p:Int)<=1114111
 .by_cases G:(p:Int)<55296
  .have:km p:=⟨by omega,by omega⟩
   simp+decide[Tryz.f257,int,H,G,this]
  .have F:km p↔(57343:Int)<p:=⟨λh=>by have:=h.2;omega,λh=>⟨by omega,by omega⟩⟩
   simp+decide[Tryz.f257,int,H,G,F]
 .have:¬km p:=λh=>H (by have:=h.1;omega)
  simp+decide[Tryz.f257,int,H,this]
def encS(p:Nat):ByteArray:=⟨((encR p).map UInt8.ofNat).toArray⟩
theorem T9(p:Nat)(E:p<2^40):zl Tryz.prog 258 [int p] (.str (encS p)):=by
 refine zp mixed Tryz.func258 rfl c_258 ?_
 have t1:(p:Int).tmod 64=((p%64:Nat):Int):=rfl
 have t2:((p:Int)/64).tmod 64=((p/64%64:Nat):Int):=by rw[show(p:Int)/64=((p/64:Nat):Int) by omega];rfl
 have t3:((p:Int)/4096).tmod 64=((p/4096%64:Nat):Int):=by rw[show(p:Int)/4096=((p/4096:Nat):Int) by omega];rfl
 by_cases K:p<128
 .have H:(p:Int)<128:=by omega
  simp+decide[Tryz.f258,int,H,jF,bytesOf];rw[ui (m:=p) (by omega)]
  simp[encS,encR,K]
 have H:¬(p:Int)<128:=by omega
 by_cases J:p<2048
 .have G:(p:Int)<2048:=by omega
  simp+decide[Tryz.f258,int,H,G,t1,jF,bytesOf,I64];rw[ui (m:=192+p/64) (by omega),ui (m:=128+p%64) (by omega)]
  refine⟨by omega,by omega,by omega,?_⟩
  simp[encS,encR,K,J]
 have G:¬(p:Int)<2048:=by omega
 by_cases L:p<65536
 .have F:(p:Int)<65536:=by omega
  simp+decide[Tryz.f258,int,H,G,F,t1,t2,jF,bytesOf,I64];rw[ui (m:=224+p/4096) (by omega),ui (m:=128+p/64%64) (by omega),ui (m:=128+p%64) (by omega)]
  refine⟨by omega,by omega,by omega,by omega,by omega,?_⟩
  simp[encS,encR,K,J,L]
 have F:¬(p:Int)<65536:=by omega
 simp+decide[Tryz.f258,int,H,G,F,t1,t2,t3,jF,bytesOf,I64]
 rw[ui (m:=240+p/262144) (by omega),ui (m:=128+p/4096%64) (by omega),ui (m:=128+p/64%64) (by omega),ui (m:=128+p%64) (by omega)]
 refine⟨by omega,by omega,by omega,by omega,by omega,by omega,by omega,?_⟩
 simp[encS,encR,K,J,L]
theorem bytes_inj{a b:ByteArray}(h:a.toList=b.toList):a=b:=by
 rw[<-MapKept.bytes_beq,beq_toListBytes,beq_iff_eq];exact h
def wq(s:ByteArray)(at_ p0:Nat):Nat->Nat
 |0=>p0
 |k+1=>wq s at_ p0 k*64+zC s (at_+(k+1))%64
theorem Ba{s:ByteArray}{at_ p0:Nat}(h:p0<256):∀ k,wq s at_ p0 k<256*64^k
 |0=>by simpa[wq] using h
 |k+1=>by
  have:=Ba (s:=s) (at_:=at_) h k
  simp only[wq,Nat.pow_succ];omega
def bytes4(s:ByteArray)(at_:Nat):List Nat:=[zC s at_,zC s (at_+1),zC s (at_+2),zC s (at_+3)]
theorem Ta(s:ByteArray)(at_ p0:Nat):∀ n,n<=4->Zt p0 ([zC s (at_+1),zC s (at_+2),zC s (at_+3)].take (n-1))=wq s at_ p0 (n-1)
 |0,_=>rfl
 |1,_=>rfl
 |2,_=>rfl
 |3,_=>rfl
 |4,_=>rfl
theorem Bc:∀ {a b:List UInt8},a.map UInt8.toNat=b.map UInt8.toNat->a=b
 | [],[],_=>rfl
 | [],_::_,h=>by simp at h
 |_::_,[],h=>by simp at h
 |x::a,y::b,h=>by
  simp only[List.map_cons,List.cons.injEq] at h;rw[UInt8.toNat_inj.1 h.1,Bc h.2]
theorem Tc{s:ByteArray}{at_ n:Nat}(F:n<=4)(h:at_+n<=s.size):(s.extract at_ (at_+n)).data.toList.map UInt8.toNat=(bytes4 s at_).take n:=by
 have G:s.size=s.data.toList.length:=by rw[Array.length_toList];rfl
 have E:(s.extract at_ (at_+n)).data.toList=(s.data.toList.drop at_).take n:=by
  simp only[ByteArray.data_extract,Array.toList_extract,List.extract_eq_take_drop];congr 1;omega
 rw[E]
 apply List.ext_getElem?
 intro j
 rw[List.getElem?_map,List.getElem?_take,List.getElem?_take]
 by_cases hj:j<n
 .rw[if_pos hj,if_pos hj,List.getElem?_drop,List.getElem?_eq_getElem (by omega)]
  have K:∀ k,(J:k<s.data.toList.length)->(s.data.toList[k]'J).toNat=zC s k:=λk J=>by simp[zC,List.getD,List.getElem?_eq_getElem J]
  have H:j=0\/j=1\/j=2\/j=3:=by omega
  rw[Option.map_some,K];rcases H with rfl | rfl | rfl | rfl <;> rfl
 .rw[if_neg hj,if_neg hj];rfl
theorem Td(p:Nat):(encS p).data.toList.map UInt8.toNat=(encR p).map (· % 256):=by
 simp only[encS,List.map_map]
 apply List.map_congr_left
 intro b _
 simp
theorem Tf{s:ByteArray}{at_ n p:Nat}(H:n<=4)(h:at_+n<=s.size):encS p=s.extract at_ (at_+n)↔(encR p).map (· % 256)=(bytes4 s at_).take n:=by
 rw[<-Td,<-Tc H h]
 constructor
 .intro e;rw[e]
 .intro e
  have:=Bc e
  have e2:(encS p).data=(s.extract at_ (at_+n)).data:=Array.ext' this
  cases G:encS p;cases F:s.extract at_ (at_+n)
  rw[G,F] at e2;simp only at e2;rw[e2]
def uj(s:ByteArray)(at_:Nat):Option (Nat×Nat):=Yk (s.size-at_) (zC s at_) (zC s (at_+1)) (zC s (at_+2)) (zC s (at_+3))
def ZO:Option (Nat×Nat)->D
 |none=>.tup [int (-1),int 0]
 |some r=>.tup [int r.1,int r.2]
theorem Ti{s:ByteArray}{at_ p0 n:Nat}(H:qT (zC s at_)=(p0,n))(G:n<=4):uj s at_=if s.size-at_<n then none else if km (wq s at_ p0 (n-1))/\(encR (wq s at_ p0 (n-1))).map (· % 256)=(bytes4 s at_).take n then some (wq s at_ p0 (n-1),n) else none:=by
 unfold uj Yk
 rw[H]
 simp only
 rw[Ta s at_ p0 n G]
 rfl
theorem Tj(s:ByteArray)(at_:Nat)(H:at_<s.size)(hs:s.size<=1048576):zl Tryz.prog 226 [.str s,int at_] (ZO (uj s at_)):=by
 refine DF Tryz.func226 rfl c_226 ?_
 have Q:zC s at_<256:=UInt8.toNat_lt _
 have e0:=Z3 s at_
 have w0:=B9 s at_
 obtain⟨⟨p0,n⟩,T⟩:∃ r,qT (zC s at_)=r:=⟨_,rfl⟩
 have G:p0<256/\1<=n/\n<=4:=by
  unfold qT at T;split at T
  .cases T;omega
  .split at T
   .cases T;omega
   .split at T <;> cases T <;> omega
 refine w8 mixed 4 {n:=65,next:=0,slots:=[(0,.d (.str s)),(1,.d (int at_)),(6,.d (int p0)),(7,.d (int n))],own:=[]} rfl ?_ ?_
 .unfold qT at T
  have q4:(240:Int)<=zC s at_↔240<=zC s at_:=by omega
  have q3:(224:Int)<=zC s at_↔224<=zC s at_:=by omega
  have q2:(192:Int)<=zC s at_↔192<=zC s at_:=by omega
  by_cases c4:240<=zC s at_
  .rw[if_pos c4] at T
   cases T;have ep:(zC s at_:Int)-240=((zC s at_-240:Nat):Int):=by omega
   simp+decide[Tryz.f226,yp,int,H,e0,w0,q4,c4,I64,jF,ep];omega
  rw[if_neg c4] at T;by_cases c3:224<=zC s at_
  .rw[if_pos c3] at T
   cases T;have ep:(zC s at_:Int)-224=((zC s at_-224:Nat):Int):=by omega
   simp+decide[Tryz.f226,yp,int,H,e0,w0,q4,c4,q3,c3,I64,jF,ep];omega
  rw[if_neg c3] at T;by_cases c2:192<=zC s at_
  .rw[if_pos c2] at T
   cases T;have ep:(zC s at_:Int)-192=((zC s at_-192:Nat):Int):=by omega
   simp+decide[Tryz.f226,yp,int,H,e0,w0,q4,c4,q3,c3,q2,c2,I64,jF,ep];omega
  .rw[if_neg c2] at T
   cases T;simp+decide[Tryz.f226,yp,int,H,e0,w0,q4,c4,q3,c3,q2,c2,I64,jF]
 simp only[yK]
 rw[Ti T G.2.2]
 refine zL mixed ?_
 by_cases E:s.size-at_<n
 .have g1:(s.size:Int)<(at_:Int)+n:=by omega
  rw[if_pos E];simp+decide[int,g1,I64,ZO];omega
 have g1:¬(s.size:Int)<(at_:Int)+n:=by omega
 rw[if_neg E]
 simp+decide[int,g1,I64]
 refine⟨by omega,?_⟩
 refine zu mixed (λj:Nat=>{n:=65,next:=0,slots:=[(0,.d (.str s)),(1,.d (int at_)),(6,.d (int (wq s at_ p0 j))),(7,.d (int n)),(8,.d (int (j+1)))],own:=[]})
  (λj=>j+1<=n) (λj=>n-j) 0 G.2.1 (by simp+decide[int,wq]) ?_
 intro j hj
 have J:=Ba (s:=s) (at_:=at_) G.1 j
 have F:wq s at_ p0 j<2^30:=Nat.lt_of_lt_of_le J (Nat.le_trans (Nat.mul_le_mul_left _ (Nat.pow_le_pow_right (by omega) (show j<=3 by omega))) (by decide))
 by_cases O:j+1<n
 .have k1:(j:Int)+1<n:=by omega
  have e1:byteAt s ((at_:Int)+((j:Int)+1))=(zC s (at_+(j+1)):Int):=Z3 s (at_+(j+1))
  have w1:=B9 s (at_+(j+1));have t1:(zC s (at_+(j+1)):Int).tmod 64=((zC s (at_+(j+1))%64:Nat):Int):=rfl
  simp+decide[int,k1,e1,w1,t1,I64,jF];exact⟨by omega,by omega,⟨by omega,by omega⟩,by omega,by omega,j+1,by omega,by omega,by simp only[wq];omega,by omega⟩
 .obtain rfl:n=j+1:=by omega
  rw[Nat.add_sub_cancel];simp+decide[int];generalize wq s at_ p0 j=q at F ⊢;refine scp (T8 q) ?_
  by_cases K:km q
  case neg=>simp+decide[K,int,ZO]
  simp+decide[K];refine scp (T9 q (by omega)) ?_
  have z1:((at_:Int)+((j:Int)+1)).toNat=at_+(j+1):=by omega
  have V:=Tf (s:=s) (at_:=at_) (n:=j+1) (p:=q) (by omega) (by omega)
  by_cases X:encS q=s.extract at_ (at_+(j+1))
  .simp+decide[int,z1,X,V.1 X,ZO,I64]
   omega
  .have L:¬((encR q).map (· % 256)=(bytes4 s at_).take (j+1)):=λh=>X (V.2 h)
   have M:¬(encS q).toList=(s.extract at_ (at_+(j+1))).toList:=λh=>X (bytes_inj h)
   simp+decide[int,z1,L,M,ZO,I64];omega
def xQ(s:ByteArray):Nat->Nat->Option (List Int)
 |0,_=>some []
 |n+1,pos=>if pos<s.size then (match uj s pos with
  |none=>none
  |some r=>(xQ s n (pos+r.2)).map ((r.1:Int) :: ·)) else some []
theorem Jl{s:ByteArray}{pos:Nat}(h:pos<s.size):match uj s pos with
  |none=>decodeN (s.size-pos) (zC s pos) (zC s (pos+1)) (zC s (pos+2)) (zC s (pos+3))=(65533,1)
  |some r=>decodeN (s.size-pos) (zC s pos) (zC s (pos+1)) (zC s (pos+2)) (zC s (pos+3))=r/\¬(r.1=65533/\r.2=1)/\r.2<=s.size-pos/\1<=r.2:=
 zbf _ _ _ _ _ (by omega) (UInt8.toNat_lt _) (UInt8.toNat_lt _) (UInt8.toNat_lt _) (UInt8.toNat_lt _)
def wt:Option (List Int)->D
 |none=>.tup [.sl [],.bool false]
 |some l=>.tup [ints l,.bool true]
def Qv(s:ByteArray)(x:List Int×Nat×Nat):St:=
 {n:=28,next:=2,slots:=[(0,.d (.str s)),(4,.ar 1),(5,.d (int x.2.1))],own:=[(1,.arr 3 1 (x.1.map λn=>[.int .i64 n]))],moved:=[1]}
theorem Un(s:ByteArray):∀ (m pos:Nat) (l:List Int),xQ s m pos=some l->l.length<=m
 |0,pos,l,h=>by simp[xQ] at h;subst h;simp
 |m+1,pos,l,h=>by
  simp only[xQ] at h;split at h
  .split at h
   .cases h
   .rw[Option.map_eq_some_iff] at h
    obtain⟨l',H,rfl⟩:=h;have:=Un s m _ l' H
    simp;omega
  .cases h;simp
theorem Jm(s:ByteArray)(hs:s.size<=1048576):zl Tryz.prog 192 [.str s] (wt (xQ s s.size 0)):=by
 refine ZC mixed Tryz.func192 rfl c_192 [1,2] ?_
 simp+decide[Tryz.f192]
 refine zu mixed (Qv s) (λx=>x.2.1<=s.size/\s.size<=x.2.1+x.2.2/\x.1.length<=x.2.1/\xQ s s.size 0=(xQ s x.2.2 x.2.1).map (x.1 ++ ·)) (λx=>x.2.2) ([],0,s.size)
  ⟨by simp,by simp,by simp,by simp⟩ (by simp+decide[Qv,int]) ?_
 rintro⟨acc,pos,m⟩ ⟨E,K,J,L⟩
 simp only at E K J L
 by_cases G:pos<s.size
 .have H:(pos:Int)<s.size:=by omega
  obtain⟨m,rfl⟩:∃ k,m=k+1:=⟨m-1,by omega⟩
  simp only[xQ,if_pos G] at L;have M:=Jl G;have F:=Tj s pos G hs;simp+decide[Qv,int,H];refine zh F ?_
  cases O:uj s pos with
  |none=>
   rw[O] at L;simp+decide[ZO,int,wt,L]
  |some r=>
   rw[O] at L M;simp only at L M
   obtain⟨_,_,g3,g4⟩:=M;have e1:¬r.2=0:=by omega
   simp+decide[ZO,int,e1,I64];refine⟨by omega,by unfold maxLen;omega,⟨by omega,by omega⟩,acc++[(r.1:Int)],pos+r.2,m,⟨by omega,by omega,by simp;omega,by rw[L];cases xQ s m (pos+r.2) <;> simp⟩,by omega,?_⟩
   simp+decide[Qv,int]
 .have H:¬(pos:Int)<s.size:=by omega
  have Q:xQ s m pos=some []:=by cases m <;> simp[xQ,G]
  rw[Q] at L;simp+decide[Qv,int,H,L,wt,ints]
end Go.V
namespace Go.V
open Go Go.Proofs
def Jn(r:D):Prop:=∃ b,r = .bool b
def Jo(r:D):Prop:=∃ e,r=int e
@[simp] theorem zo7(b:Bool):Jn (.bool b):=⟨b,rfl⟩
@[simp] theorem zo8(n:Int):Jo (.int .i64 n):=⟨n,rfl⟩
theorem Bd(s:ByteArray)(hs:s.size<=1048576):xU Tryz.prog 142 [.str s] Jn:=by
 refine qV mixed Tryz.func142 rfl c_142 ?_
 simp+decide[Tryz.f142]
 refine zu mixed (λk:Nat=>{n:=38,next:=0,slots:=[(0,.d (.str s)),(3,.d (int k))],own:=[]})
  (λk=>k<=s.size) (λk=>s.size-k) 0 (by simp) (by simp+decide[int]) ?_
 intro k F
 by_cases G:k<s.size
 .have H:(k:Int)<s.size:=by omega
  have e1:byteAt s (k:Int)=(zC s k:Int):=Z3 s k
  by_cases b1:(zC s k:Int)<32
  .simp+decide[int,H,e1,b1]
  .by_cases b2:(zC s k:Int)=127
   .simp+decide[int,H,e1,b2]
   .simp+decide[int,H,e1,b1,b2,I64]
    exact⟨⟨by omega,by omega⟩,k+1,G,by omega,by omega⟩
 .have H:¬(k:Int)<s.size:=by omega
  simp+decide[int,H];refine zh (Jm s hs) ?_
  cases E:xQ s s.size 0 with
  |none=>simp+decide[wt]
  |some l=>
   by_cases c1:(1:Int)<=s.size
   .simp+decide[wt,ints,c1]
   .simp+decide[wt,ints,c1]
theorem Tm(s:ByteArray)(hs:s.size<=1048576):xU Tryz.prog 145 [.str s] Jn:=by
 refine qV mixed Tryz.func145 rfl c_145 ?_
 simp+decide[Tryz.f145]
 refine zu mixed (λk:Nat=>{n:=16,next:=0,slots:=[(0,.d (.str s)),(3,.d (int k))],own:=[]})
  (λk=>k<=s.size) (λk=>s.size-k) 0 (by simp) (by simp+decide[int]) ?_
 intro k F
 by_cases G:k<s.size
 .have H:(k:Int)<s.size:=by omega
  have e1:byteAt s (k:Int)=(zC s k:Int):=Z3 s k
  by_cases b1:(zC s k:Int)=32
  .simp+decide[int,H,e1,b1]
  .simp+decide[int,H,e1,b1,I64]
   exact⟨⟨by omega,by omega⟩,k+1,G,by omega,by omega⟩
 .have H:¬(k:Int)<s.size:=by omega
  simp+decide[int,H];refine zG.some (by rfl) (Bd s hs) ?_
  rintro r ⟨b,rfl⟩
  simp+decide
def um(b:Nat):Bool:=decide (97<=b)&&decide (b<=122)
def wu(b:Nat):Bool:=um b || (decide (48<=b)&&decide (b<=57)) || decide (b=45) || decide (b=95)
def nameP(s:ByteArray):Bool:=decide (1<=s.size)&&decide (s.size<=32)&&um (zC s 0)&&(List.range s.size).all λk=>wu (zC s k)
theorem Tn(b:Nat):(97<=b/\b<=122)\/(48<=b/\b<=57)\/b=45\/b=95\/(b<48/\b≠45)\/(57<b/\b<97/\b≠95)\/122<b:=by omega
theorem Be(s:ByteArray)(hs:s.size<=9223372036854775807):zl Tryz.prog 143 [.str s] (.bool (nameP s)):=by
 refine zp mixed Tryz.func143 rfl c_143 ?_
 simp+decide[Tryz.f143]
 refine zu mixed (λk:Nat=>{n:=59,next:=0,slots:=[(0,.d (.str s)),(3,.d (.int .i64 k))],own:=[]})
  (λk=>k<=s.size/\∀ j,j<k->(wu (zC s j)=true/\(j=0->um (zC s 0)=true))) (λk=>s.size-k) 0 (by simp) (by simp+decide) ?_
 intro k ⟨M,O⟩
 by_cases F:k<s.size
 .have H:(k:Int)<s.size:=by omega
  have e0:byteAt s (k:Int)=(zC s k:Int):=Z3 s k
  have good:wu (zC s k)=true->(k=0->um (zC s k)=true)->∀ j,j<k+1->(wu (zC s j)=true/\(j=0->um (zC s 0)=true)):=by
   intro Q T j hj;rcases Nat.lt_or_ge j k with J | J
   .exact O j J
   .have:j=k:=by omega
    subst this;exact⟨Q,λe=>by subst e;exact T rfl⟩
  have bad:wu (zC s k)=false->nameP s=false:=λQ=>by
   have:(List.range s.size).all (λk=>wu (zC s k))=false:=by rw[List.all_eq_false];exact⟨k,by simpa using F,by simp[Q]⟩
   simp only[nameP,this,Bool.and_false]
  have bad0:k=0->um (zC s k)=false->nameP s=false:=λT Q=>by
   subst T;simp only[nameP,Q,Bool.and_false,Bool.false_and]
  generalize zC s k=b at e0 good bad bad0;by_cases hs:97<=b/\b<=122
  .obtain⟨c1,c2⟩:=hs
   have q1:(97:Int)<=b:=by omega
   have q2:(b:Int)<=122:=by omega
   have V:um b=true:=by simp[um];omega
   simp+decide[H,e0,q1,q2,I64];exact⟨by omega,k+1,⟨by omega,good (by simp[wu,V]) (λ_=>V)⟩,by omega,by omega⟩
  .have V:um b=false:=by simp[um];omega
   by_cases G:k=0
   .subst G
    have Q:=bad0 rfl V;have e0':byteAt s 0=(b:Int):=e0
    by_cases q1:(97:Int)<=b
    .have q2:¬(b:Int)<=122:=by omega
     simp+decide[F,e0',q1,q2,Q]
    .simp+decide[F,e0',q1,Q]
   .have L:¬(k:Int)=0:=by omega
    have key:∀ (r:Bool),wu b=r->(decide (97<=(b:Int))&&decide ((b:Int)<=122))=false:=λ_ _=>by simp;omega
    by_cases q1:(97:Int)<=b
    .have q2:¬(b:Int)<=122:=by omega
     have q3:¬(b:Int)=45:=by omega
     have q4:¬(b:Int)=95:=by omega
     have q5:¬(b:Int)<48:=by omega
     have q6:(57:Int)<b:=by omega
     have Q:=bad (by simp[wu,V];omega)
     simp+decide[H,e0,q1,q2,q3,q4,q5,q6,G,Q]
    .rcases Tn b with⟨c1,c2⟩ | ⟨c1,c2⟩ | rfl | rfl | ⟨c1,c2⟩ | ⟨c1,c2,c3⟩ | c1
     .omega
     .have q3:¬(b:Int)=45:=by omega
      have q4:¬(b:Int)=95:=by omega
      have q5:¬(b:Int)<48:=by omega
      have q6:¬(57:Int)<b:=by omega
      simp+decide[H,e0,q1,q3,q4,q5,q6,G,I64];exact⟨by omega,k+1,⟨by omega,good (by simp[wu];omega) (λh=>absurd h G)⟩,by omega,by omega⟩
     .simp+decide[H,e0,G,I64]
      exact⟨by omega,k+1,⟨by omega,good (by decide) (λh=>absurd h G)⟩,by omega,by omega⟩
     .simp+decide[H,e0,G,I64]
      exact⟨by omega,k+1,⟨by omega,good (by decide) (λh=>absurd h G)⟩,by omega,by omega⟩
     .have q3:¬(b:Int)=45:=by omega
      have q4:¬(b:Int)=95:=by omega
      have q5:(b:Int)<48:=by omega
      have Q:=bad (by simp[wu,V];omega)
      simp+decide[H,e0,q1,q3,q4,q5,G,Q]
     .have q3:¬(b:Int)=45:=by omega
      have q4:¬(b:Int)=95:=by omega
      have q5:¬(b:Int)<48:=by omega
      have q6:(57:Int)<b:=by omega
      have Q:=bad (by simp[wu,V];omega)
      simp+decide[H,e0,q1,q3,q4,q5,q6,G,Q]
     .omega
 .have:k=s.size:=by omega
  subst this;have E:(List.range s.size).all (λk=>wu (zC s k))=true:=by
   rw[List.all_eq_true];intro j hj;exact(O j (by simpa using hj)).1
  by_cases X:1<=s.size
  .have K:(1:Int)<=s.size:=by omega
   have V:=(O 0 (by omega)).2 rfl
   simp+decide[K,nameP,E,V,X];omega
  .have K:¬(1:Int)<=s.size:=by omega
   simp+decide[K,nameP,X]
def ZP(l:List ByteArray):D:=.sl (l.map λs=>[.str s])
theorem Tq(l:List ByteArray)(s:ByteArray)(F:l.length<2^40):xU Tryz.prog 146 [ZP l,.str s] Jn:=by
 refine qV mixed Tryz.func146 rfl c_146 ?_
 simp+decide[Tryz.f146,ZP]
 refine zu mixed (λk:Nat=>{n:=18,next:=0,slots:=[(0,.d (ZP l)),(1,.d (.str s)),(5,.d (int k))],own:=[]})
  (λk=>k<=l.length) (λk=>l.length-k) 0 (by simp) (by simp+decide[int,ZP]) ?_
 intro k E
 by_cases G:k<l.length
 .have H:(k:Int)<l.length:=by omega
  obtain⟨x,ex⟩:∃ x,l[k]=x:=⟨_,rfl⟩;have e1:l[k]?=some x:=by rw[List.getElem?_eq_getElem G,ex]
  by_cases b1:x=s
  .simp+decide[int,ZP,G,H,ex,b1]
  .simp+decide[int,ZP,G,H,ex,I64]
   first | exact λ_=>⟨⟨by omega,by omega⟩,k+1,G,by omega,by omega⟩ | exact⟨⟨by omega,by omega⟩,k+1,G,by omega,by omega⟩
 .have H:¬(k:Int)<l.length:=by omega
  simp+decide[int,ZP,H]
structure OrthC(o:Orth):Prop where
 name:o.name.size<=1048576
 units:∀ u∈o.units,u.graph.size<=1048576/\u.segs.length<=1048576
 letters:∀ l∈o.letters,l.length<=1048576/\∀ s∈l,s.size<=1048576
 few:o.units.length<=1048576/\o.letters.length<=1048576
def Uo(s:ByteArray):Bool:=Lib.validD s.data.toList
end Go.V
namespace Go.V.Doc
open Go Go.Proofs
def badByte(b:Nat):Bool:=decide (b<32) || decide (b=127)
def Jp(s:ByteArray):Bool:=(List.range s.size).any λk=>badByte (zC s k)
def textE(s:ByteArray):Int:=if 200<s.size then 5 else if Uo s=true then (if Jp s=true then 3 else 0) else 3
end Go.V.Doc
namespace Go.V
open Go Go.Proofs
structure Dec where
 ref:Rf
 yes:Bool
 pick:List Prt
 deriving DecidableEq
def Dec.row(d:Dec):List D:=[int d.ref.rcd,int d.ref.note,.bool d.yes,zm d.pick]
def zE(l:List Dec):D:=.sl (l.map Dec.row)
def YP(r:Rf):D:=.agg r.row
theorem Up(look:Nat->Option Obj'):∀ (l:List D),vr look (l.map .d)=some (l,false)
 | []=>rfl
 |d::r=>by simp only[List.map_cons,vr,lend,Up look r];rfl
def uo:List Int->Int
 | []=>0
 |x::l=>if x=0 then uo l else x
theorem Tt{l:List Int}{k:Nat}(h:k<l.length):uo (l.drop k)=if l[k]=0 then uo (l.drop (k+1)) else l[k]:=by
 rw[List.drop_eq_getElem_cons h];rfl
def Bf(a b:Rf):Int:=uo [xO a.rcd b.rcd,xO a.note b.note]
end Go.V
namespace Go.V.Doc
open Go
structure Nt where
 id:Int
 tier:Int
 par:Int
 fr:Int
 tO:Int
 rank:Int
 text:ByteArray
 deriving Inhabited,DecidableEq
def Nt.enc(n:Nt):List Value:=[.int .i64 n.id,.int .i64 n.tier,.int .i64 n.par,.int .i64 n.fr,.int .i64 n.tO,.int .i64 n.rank,.string n.text]
def ZQ(a b:Nt):Int:=uo [xO a.par b.par,xO a.fr b.fr,xO a.rank b.rank]
end Go.V.Doc
namespace Go.V.Doc
open Go Go.Proofs
variable [Dr]
def Nt.row(n:Nt):List D:=[int n.id,int n.tier,int n.par,int n.fr,int n.tO,int n.rank,.str n.text]
def zy(l:List Nt):D:=.sl (l.map Nt.row)
theorem Z4:RowEnc Nt.enc Nt.row 7 where
 pos:=by decide
 len:=λ_=>rfl
 one:=by intro x v H;simp[Nt.enc] at H;rcases H with rfl | rfl | rfl | rfl | rfl | rfl | rfl <;> rfl
 rlen:=λ_=>rfl
 read:=by
  intro w E x;simp only[Nt.row,Nt.enc,zi,R,int];exact⟨_,_,rfl,rfl,rfl,_,_,rfl,rfl,rfl,_,_,rfl,rfl,rfl,_,_,rfl,rfl,rfl,_,_,rfl,rfl,rfl,_,_,rfl,rfl,rfl,_,_,rfl,rfl,rfl,rfl⟩
 uniq:=by
  intro w E x vs h;simp only[Nt.row,zi,R,int] at h;obtain⟨_,_,rfl,_,rfl,_,_,rfl,_,rfl,_,_,rfl,_,rfl,_,_,rfl,_,rfl,_,_,rfl,_,rfl,_,_,rfl,_,rfl,_,_,rfl,_,rfl,rfl⟩:=h;rfl
theorem Qs(n:Int):zl Tryz.prog 123 [int n] (.bool false):=by
 refine zp mixed Tryz.func123 rfl c_123 ?_
 simp[Tryz.f123,int]
theorem gX(a b:Int):zl Tryz.prog 67 [int a,int b] (int (xO a b)):=by
 refine zp mixed Tryz.func67 rfl c_67 ?_
 simp[Tryz.f67,int]
 refine zh (Qs a) ?_
 simp
 refine zh (Qs b) ?_
 simp[xO]
 refine⟨λh h'=>by omega,λh=>by omega⟩
theorem Ur(l:List Int)(G:l.length<2^62):zl Tryz.prog 166 [ints l] (int (uo l)):=by
 refine zp mixed Tryz.func166 rfl c_166 ?_
 simp[Tryz.f166,ints]
 refine zu mixed (λk:Nat=>{n:=18,next:=0,slots:=[(0,.d (ints l)),(3,.d (int 0)),(6,.d (ints l)),(7,.d (.int .i64 l.length)),(8,.d (.int .i64 k))],own:=[]})
  (λk=>k<=l.length/\uo l=uo (l.drop k)) (λk=>l.length-k) 0 (by simp) (by simp[ints,int]) ?_
 intro k ⟨F,E⟩
 by_cases H:k<l.length
 .have e1:l[k]?=some l[k]:=List.getElem?_eq_getElem H
  rw[Tt H] at E;simp+decide[ints,int,H,I64];refine⟨λh=>?_,λh=>⟨by omega,k+1,⟨H,?_⟩,by omega,by omega⟩⟩
  .rw[E,if_neg h]
  .rw[E,if_pos h]
 .have:k=l.length:=by omega
  subst this;simp+decide[ints,int,E,uo]
theorem Tv(a b:Nt):zl Tryz.prog 113 [.agg a.row,.agg b.row] (int (ZQ a b)):=by
 refine zp mixed Tryz.func113 rfl c_113 ?_
 simp+decide[Tryz.f113,Nt.row,int]
 refine scp (gX a.par b.par) ?_
 simp+decide[int]
 refine scp (gX a.fr b.fr) ?_
 simp+decide[int]
 refine scp (gX a.rank b.rank) ?_
 simp+decide[int,inOrder,rowsOf,rowOf,qI]
 refine scp (Ur [xO a.par b.par,xO a.fr b.fr,xO a.rank b.rank] (by simp)) ?_
 simp+decide[ZQ,int]
theorem Tz{blk off size:Nat}{w:World}{E:Nat->Prop}(H:Seen w E)(G:E blk):Go.Proofs.CmpLays Tryz.prog 113 #[] Nt.enc 7 ZQ blk off size w:=by
 let d:Dr:=⟨true⟩
 exact @Nj d _ _ _ _ _ _ _ rfl _ _ Z4 (λx y=>@Tv d x y) _ _ _ _ _ H G
end Go.V.Doc
namespace Go.V.Doc
open Go Go.Proofs
structure Tir where
 name:ByteArray
 kind:Int
 role:Int
 par:Int
 deriving Inhabited,DecidableEq
def Tir.row(t:Tir):List D:=[.str t.name,int t.kind,int t.role,int t.par]
def zH(l:List Tir):D:=.sl (l.map Tir.row)
structure Dc where
 id:Int
 name:ByteArray
 len:Int
 day:Int
 spk:List Int
 tiers:List Tir
 notes:List Nt
 deriving DecidableEq
def Dc.row(d:Dc):List D:=[int d.id,.str d.name,int d.len,int d.day,ints d.spk,zH d.tiers,zy d.notes]
def zv(d:Dc):D:=.agg d.row
theorem take_snoc'{α:Type}{l:List α}{k:Nat}(h:k<l.length):l.take (k+1)=l.take k++[l[k]]:=by rw[List.take_succ_eq_append_getElem h]
theorem Bg{α:Type}{p:α->Prop}{l:List α}{k:Nat}(h:k<l.length)(H:∀ e∈l.take k,p e)(G:p l[k]):∀ e∈l.take (k+1),p e:=by
 rw[take_snoc' h]
 intro e F
 rcases List.mem_append.1 F with F | F
 .exact H e F
 .simp at F;rw[F];exact G
@[simp] theorem zlr{a b:ByteArray}:a.toList=b.toList↔a=b:=by
 rw[<-MapKept.bytes_beq,beq_toListBytes,beq_iff_eq]
structure Dc.fit(d:Dc):Prop where
 notes:d.notes.length<=320
 tiers:d.tiers.length<=20
 spk:d.spk.length<=100
def Nt.zero:Nt:=⟨0,0,0,0,0,0,⟨#[]⟩⟩
def zn(l:List Nt)(id:Int):Nt×Bool:=match l.find? (λn=>decide (n.id=id)) with
 |some n=>(n,true)
 |none=>(Nt.zero,false)
def getD'(r:Nt×Bool):D:=.tup [.agg r.1.row,.bool r.2]
theorem Bh{l:List Nt}{id:Int}{k:Nat}(h:k<l.length)(H:∀ e∈l.take k,e.id≠id)(G:l[k].id=id):zn l id=(l[k],true):=by
 have:l.find? (λn=>decide (n.id=id))=some l[k]:=by
  rw[List.find?_eq_some_iff_append];refine⟨by simpa using G,l.take k,l.drop (k+1),by rw[List.getElem_cons_drop,List.take_append_drop],λe F=>by simpa using H e F⟩
 simp[zn,this]
theorem Bi{l:List Nt}{id:Int}(H:∀ e∈l,e.id≠id):zn l id=(Nt.zero,false):=by
 have:l.find? (λn=>decide (n.id=id))=none:=by rw[List.find?_eq_none];intro e G;simpa using H e G
 simp[zn,this]
abbrev ya(d:Dc):List Sym:=[.d (int d.id),.d (.str d.name),.d (int d.len),.d (int d.day),.d (ints d.spk),.d (zH d.tiers),.d (zy d.notes)]
abbrev noteCells(n:Nt):List Sym:=[.d (int n.id),.d (int n.tier),.d (int n.par),.d (int n.fr),.d (int n.tO),.d (int n.rank),.d (.str n.text)]
theorem ZR(d:Dc)(id:Int)(G:d.notes.length<2^62):zl Tryz.prog 54 [zv d,int id] (getD' (zn d.notes id)):=by
 refine zp mixed Tryz.func54 rfl c_54 ?_
 simp+decide[Tryz.f54,zv,Dc.row,zy,zH,ints,int]
 refine zu mixed (λk:Nat=>{n:=22,next:=2,slots:=[(1,.d (int id)),(2,.bp 0 0),(4,.bp 1 0),(5,.d (.bool false)),(9,.d (zy d.notes)),(10,.d (.int .i64 d.notes.length)),(11,.d (.int .i64 k))],own:=[(0,.box 53 (ya d)),(1,.box 72 (noteCells Nt.zero))]})
  (λk=>k<=d.notes.length/\∀ e∈d.notes.take k,e.id≠id) (λk=>d.notes.length-k) 0 (by simp) (by simp+decide[zy,zH,ints,int,Nt.zero]) ?_
 intro k ⟨F,E⟩
 by_cases H:k<d.notes.length
 .have e1:d.notes[k]?=some d.notes[k]:=List.getElem?_eq_getElem H
  simp+decide[zy,int,Nt.row,Nt.zero,H,I64];refine⟨λh=>?_,λh=>⟨by omega,k+1,⟨H,Bg H E h⟩,by omega,by omega⟩⟩
  simp[getD',Bh H E h,Nt.row,int]
 .have:k=d.notes.length:=by omega
  subst this;rw[List.take_length] at E;simp+decide[zy,int,Bi E,getD',Nt.row,Nt.zero]
theorem ZS(d:Dc)(id:Int)(G:d.notes.length<2^62):zl Tryz.prog 36 [zv d,int id] (getD' (zn d.notes id)):=by
 refine zp mixed Tryz.func36 rfl c_36 ?_
 simp+decide[Tryz.f36,zv,Dc.row,zy,zH,ints,int]
 refine zu mixed (λk:Nat=>{n:=28,next:=2,slots:=[(1,.d (int id)),(2,.bp 0 0),(4,.bp 1 0),(5,.d (.bool false)),(6,.d (.int .i64 k))],own:=[(0,.box 53 (ya d)),(1,.box 72 (noteCells Nt.zero))]})
  (λk=>k<=d.notes.length/\∀ e∈d.notes.take k,e.id≠id) (λk=>d.notes.length-k) 0 (by simp) (by simp+decide[zy,zH,ints,int,Nt.zero]) ?_
 intro k ⟨F,E⟩
 by_cases H:k<d.notes.length
 .have e1:d.notes[k]?=some d.notes[k]:=List.getElem?_eq_getElem H
  simp+decide[zy,zH,ints,int,Nt.row,Nt.zero,H,I64];refine⟨λh=>?_,λh=>⟨by omega,k+1,⟨H,Bg H E h⟩,by omega,by omega⟩⟩
  simp[getD',Bh H E h,Nt.row,int]
 .have:k=d.notes.length:=by omega
  subst this;rw[List.take_length] at E;simp+decide[zy,zH,ints,int,Bi E,getD',Nt.row,Nt.zero]
theorem TA(a b:List Int)(E:b.length<2^62):zl Tryz.prog 62 [ints a,ints b] (.bool (decide (a=b))):=by
 refine zp mixed Tryz.func62 rfl c_62 ?_
 simp[Tryz.f62,ints]
 refine⟨λh e=>h (by rw[e]),λh=>?_⟩
 refine zu mixed (λk:Nat=>{n:=26,next:=0,slots:=[(0,.d (ints a)),(1,.d (ints b)),(5,.d (.int .i64 k))],own:=[]})
  (λk=>k<=a.length/\a.take k=b.take k) (λk=>a.length-k) 0 (by simp) (by simp[ints]) ?_
 intro k ⟨K,J⟩
 have h:a.length=b.length:=by omega
 by_cases G:k<a.length
 .have e1:a[k]?=some a[k]:=List.getElem?_eq_getElem G
  have e2:b[k]?=some (b[k]'(by omega)):=List.getElem?_eq_getElem (by omega)
  have H:k<b.length:=by omega
  simp+decide[ints,G,H,I64];refine⟨λF e=>by subst e;simp at F,λhe=>⟨by omega,k+1,⟨G,?_⟩,by omega,by omega⟩⟩
  rw[take_snoc' G,take_snoc' H,J,he]
 .have:k=a.length:=by omega
  subst this;simp+decide[ints];rw[List.take_length,h,List.take_length] at J;exact J
end Go.V.Doc

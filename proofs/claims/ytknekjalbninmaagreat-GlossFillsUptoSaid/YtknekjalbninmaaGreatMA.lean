/- Contracts and plain laws of this seat: part MA. It needs no conditions. -/
import Derived.Test.YtknekjalbninmaaGreatTab
import Derived.Test.YtknekjalbninmaaGreatU0
import Derived.Lib.TrimU
import Derived.Test.YtknekjalbninmaaGreatW1
import GoSem.Core.Value
import Derived.Test.YtknekjalbninmaaGreatS1
import Derived.Test.YtknekjalbninmaaGreatX9
import Derived.Test.YtknekjalbninmaaGreatProg
import Derived.KernelRfl
import Derived.Test.YtknekjalbninmaaGreatSh
import Derived.Test.YtknekjalbninmaaGreatSq
set_option maxHeartbeats 32000000
set_option linter.unusedVariables false
set_option linter.unusedSimpArgs false
set_option linter.unusedSectionVars false
set_option maxRecDepth 100000
namespace Go.V
open Go Go.Proofs
instance:Dr:=⟨false⟩
instance:Ov:=⟨false⟩
@[simp] theorem ynt(n:Int)(k:Sym->Prop):arith .i64 n k=(I64 n/\k (.d (.int .i64 n))):=rfl
@[simp] theorem ynu(n:Int)(k:Sym->Prop):arith .i32 n k=k (.d (.int .i32 (IntKind.i32.wrap n))):=rfl
@[simp] theorem yo5(n:Int)(k:Sym->Prop):arith .u8 n k=k (.d (.int .u8 (IntKind.u8.wrap n))):=rfl
@[simp] theorem ynv(n:Int)(k:Sym->Prop):arith .u32 n k=k (.d (.int .u32 (IntKind.u32.wrap n))):=rfl
@[simp] theorem ynw(n:Int)(k:Sym->Prop):arith .u64 n k=k (.d (.int .u64 (IntKind.u64.wrap n))):=rfl
def int(n:Int):D:=.int .i64 n
def ints(l:List Int):D:=.sl (l.map λn=>[.int .i64 n])
structure Phon where
 name:ByteArray
 feat:Int
 deriving DecidableEq
structure Grap where
 graph:ByteArray
 segs:List Int
 deriving DecidableEq
structure Orth where
 name:ByteArray
 units:List Grap
 letters:List (List ByteArray)
 deriving DecidableEq
structure Cls where
 mask:Int
 value:Int
 deriving DecidableEq
structure Rule where
 src:List Int
 dst:List Int
 left:List Cls
 right:List Cls
 beg:Bool
 fin:Bool
 deriving DecidableEq
structure Stp where
 src:Int
 cls:Int
 dst:Int
 deriving DecidableEq
structure Nett where
 states:Int
 steps:List Stp
 final:List Int
 deriving DecidableEq
structure Sens where
 gloss:ByteArray
 defn:ByteArray
 deriving DecidableEq
structure Lnk where
 kind:Int
 dst:Int
 deriving DecidableEq
structure Rf where
 rcd:Int
 note:Int
 deriving DecidableEq
structure Ent where
 id:Int
 form:List Int
 cls:Int
 alts:List (List Int)
 main:Int
 senses:List Sens
 links:List Lnk
 refs:List Rf
 deriving DecidableEq
structure Lang where
 inv:List Phon
 orth:Orth
 rules:List Rule
 net:Nett
 lex:List Ent
 deriving DecidableEq
structure Prt where
 entry:Int
 alt:Int
 sense:Int
 deriving DecidableEq
def Phon.row(p:Phon):List D:=[.str p.name,int p.feat]
def invD(l:List Phon):D:=.sl (l.map Phon.row)
def Grap.row(u:Grap):List D:=[.str u.graph,ints u.segs]
def zaw(l:List Grap):D:=.sl (l.map Grap.row)
def zd9(l:List (List ByteArray)):D:=.sl (l.map λr=>[.sl (r.map λs=>[.str s])])
def Orth.cells(o:Orth):List D:=[.str o.name,zaw o.units,zd9 o.letters]
def Cls.row(c:Cls):List D:=[int c.mask,int c.value]
def clsD(l:List Cls):D:=.sl (l.map Cls.row)
def Rule.row(r:Rule):List D:=[ints r.src,ints r.dst,clsD r.left,clsD r.right,.bool r.beg,.bool r.fin]
def zco(l:List Rule):D:=.sl (l.map Rule.row)
def Stp.row(s:Stp):List D:=[int s.src,int s.cls,int s.dst]
def stepsD(l:List Stp):D:=.sl (l.map Stp.row)
def Nett.cells(n:Nett):List D:=[int n.states,stepsD n.steps,ints n.final]
def Sens.row(s:Sens):List D:=[.str s.gloss,.str s.defn]
def zbv(l:List Sens):D:=.sl (l.map Sens.row)
def Lnk.row(s:Lnk):List D:=[int s.kind,int s.dst]
def lnkD(l:List Lnk):D:=.sl (l.map Lnk.row)
def Rf.row(s:Rf):List D:=[int s.rcd,int s.note]
def rfD(l:List Rf):D:=.sl (l.map Rf.row)
def zcb(l:List (List Int)):D:=.sl (l.map λa=>[ints a])
def Ent.row(e:Ent):List D:=[int e.id,ints e.form,int e.cls,zcb e.alts,int e.main,zbv e.senses,lnkD e.links,rfD e.refs]
def lexD(l:List Ent):D:=.sl (l.map Ent.row)
def Lang.d(g:Lang):D:=.agg [invD g.inv,.str g.orth.name,zaw g.orth.units,zd9 g.orth.letters,zco g.rules,int g.net.states,stepsD g.net.steps,ints g.net.final,lexD g.lex]
def Prt.row(p:Prt):List D:=[int p.entry,int p.alt,int p.sense]
def zat(l:List Prt):D:=.sl (l.map Prt.row)
def anaD(a:List Prt):D:=.agg [zat a]
@[simp ↓] theorem ypl(p:Prop):(true = !true->p)=True:=by simp
@[simp ↓] theorem ypm(p:Prop):(false = !false->p)=True:=by simp
@[simp ↓] theorem ypn(p:Prop):(true = !false->p)=p:=by simp
@[simp ↓] theorem ypo(p:Prop):(false = !true->p)=p:=by simp
@[simp ↓] theorem ypr(p:Prop):(true=false->p)=True:=by simp
@[simp ↓] theorem ypt(p:Prop):(false=true->p)=True:=by simp
@[simp ↓] theorem ypu(p:Prop):(true=true->p)=p:=by simp
@[simp ↓] theorem ypv(p:Prop):(false=false->p)=p:=by simp
def ykp(s:ByteArray):Bool:=Lib.validD s.data.toList
end Go.V
namespace Go.V.Doc
open Go Go.Proofs
def zal(s:ByteArray)(k:Nat):Nat:=(s.data.toList.getD k 0).toNat
theorem zb1(s:ByteArray)(k:Nat):byteAt s (k:Int)=(zal s k:Int):=by simp[byteAt,zal]
def badByte(b:Nat):Bool:=decide (b<32) || decide (b=127)
def z3n(s:ByteArray):Bool:=(List.range s.size).any λk=>badByte (zal s k)
def textE(s:ByteArray):Int:=if 200<s.size then 5 else if ykp s=true then (if z3n s=true then 3 else 0) else 3
end Go.V.Doc
namespace Go.V.Doc
open Go
structure Nt where
 id:Int
 tier:Int
 par:Int
 fr:Int
 tO:Int
 rank:Int
 text:ByteArray
 deriving Inhabited,DecidableEq
def Nt.enc(n:Nt):List Value:=[.int .i64 n.id,.int .i64 n.tier,.int .i64 n.par,.int .i64 n.fr,.int .i64 n.tO,.int .i64 n.rank,.string n.text]
def cmpI(a b:Int):Int:=if a<b then -1 else if b<a then 1 else 0
def orI:List Int->Int
 | []=>0
 |x::l=>if x=0 then orI l else x
theorem yhz{l:List Int}{k:Nat}(h:k<l.length):orI (l.drop k)=if l[k]=0 then orI (l.drop (k+1)) else l[k]:=by
 rw[List.drop_eq_getElem_cons h];rfl
def cmpN(a b:Nt):Int:=orI [cmpI a.par b.par,cmpI a.fr b.fr,cmpI a.rank b.rank]
end Go.V.Doc
namespace Go.V.Doc
open Go Go.Proofs
variable [Dr]
def Nt.row(n:Nt):List D:=[int n.id,int n.tier,int n.par,int n.fr,int n.tO,int n.rank,.str n.text]
def zak(l:List Nt):D:=.sl (l.map Nt.row)
theorem zjr:RowEnc Nt.enc Nt.row 7 where
 pos:=by decide
 len:=λ_=>rfl
 one:=by intro x v H;simp[Nt.enc] at H;rcases H with rfl | rfl | rfl | rfl | rfl | rfl | rfl <;> rfl
 rlen:=λ_=>rfl
 read:=by
  intro w E x;simp only[Nt.row,Nt.enc,zah,R,int];exact⟨_,_,rfl,rfl,rfl,_,_,rfl,rfl,rfl,_,_,rfl,rfl,rfl,_,_,rfl,rfl,rfl,_,_,rfl,rfl,rfl,_,_,rfl,rfl,rfl,_,_,rfl,rfl,rfl,rfl⟩
 uniq:=by
  intro w E x vs h;simp only[Nt.row,zah,R,int] at h;obtain⟨_,_,rfl,_,rfl,_,_,rfl,_,rfl,_,_,rfl,_,rfl,_,_,rfl,_,rfl,_,_,rfl,_,rfl,_,_,rfl,_,rfl,_,_,rfl,_,rfl,rfl⟩:=h;rfl
theorem z7h(n:Int):zan Tryz.prog 123 [int n] (.bool false):=by
 refine zab mixed Tryz.func123 rfl c_123 ?_
 simp[Tryz.f123,int]
theorem zkz(a b:Int):zan Tryz.prog 67 [int a,int b] (int (cmpI a b)):=by
 refine zab mixed Tryz.func67 rfl c_67 ?_
 simp[Tryz.f67,int]
 refine zai.pure (by rfl) (z7h a) (by simp) ?_
 simp
 refine zai.pure (by rfl) (z7h b) (by simp) ?_
 simp[cmpI]
 refine⟨λh h'=>by omega,λh=>by omega⟩
theorem yo7(l:List Int)(G:l.length<2^62):zan Tryz.prog 166 [ints l] (int (orI l)):=by
 refine zab mixed Tryz.func166 rfl c_166 ?_
 simp[Tryz.f166,ints]
 refine zae mixed (λk:Nat=>{n:=18,next:=0,slots:=[(0,.d (ints l)),(3,.d (int 0)),(6,.d (ints l)),(7,.d (.int .i64 l.length)),(8,.d (.int .i64 k))],own:=[]})
  (λk=>k<=l.length/\orI l=orI (l.drop k)) (λk=>l.length-k) 0 (by simp) (by simp[ints,int]) ?_
 intro k ⟨F,E⟩
 by_cases H:k<l.length
 .have e1:l[k]?=some l[k]:=List.getElem?_eq_getElem H
  rw[yhz H] at E;simp+decide[ints,int,e1,H,I64];refine⟨λh=>?_,λh=>⟨by omega,k+1,⟨H,?_⟩,by omega,by omega⟩⟩
  .rw[E,if_neg h]
  .rw[E,if_pos h]
 .have:k=l.length:=by omega
  subst this;simp+decide[ints,int,E,orI]
theorem yh0(a b:Nt):zan Tryz.prog 113 [.agg a.row,.agg b.row] (int (cmpN a b)):=by
 refine zab mixed Tryz.func113 rfl c_113 ?_
 simp+decide[Tryz.f113,Nt.row,int]
 refine zaa (by rfl) (by rfl) (zkz a.par b.par) (by simp) ?_
 simp+decide[int]
 refine zaa (by rfl) (by rfl) (zkz a.fr b.fr) (by simp) ?_
 simp+decide[int]
 refine zaa (by rfl) (by rfl) (zkz a.rank b.rank) (by simp) ?_
 simp+decide[int,inOrder,rowsOf,rowOf,zbg]
 refine zaa (by rfl) (by rfl) (yo7 [cmpI a.par b.par,cmpI a.fr b.fr,cmpI a.rank b.rank] (by simp)) (by simp) ?_
 simp+decide[cmpN,int]
theorem z90{blk off size:Nat}{w:World}{E:Nat->Prop}(H:Seen w E)(G:E blk):Go.Proofs.CmpLays Tryz.prog 113 #[] Nt.enc 7 cmpN blk off size w:=by
 let d:Dr:=⟨true⟩
 exact @zwk d _ _ _ _ _ _ _ rfl _ _ zjr (λx y=>@yh0 d x y) _ _ _ _ _ H G
end Go.V.Doc
namespace Go.V.Doc
open Go Go.Proofs
structure Tir where
 name:ByteArray
 kind:Int
 role:Int
 par:Int
 deriving Inhabited,DecidableEq
def Tir.row(t:Tir):List D:=[.str t.name,int t.kind,int t.role,int t.par]
def zad(l:List Tir):D:=.sl (l.map Tir.row)
structure Dc where
 id:Int
 name:ByteArray
 len:Int
 day:Int
 spk:List Int
 tiers:List Tir
 notes:List Nt
 deriving DecidableEq
def Dc.row(d:Dc):List D:=[int d.id,.str d.name,int d.len,int d.day,ints d.spk,zad d.tiers,zak d.notes]
def docD(d:Dc):D:=.agg d.row
theorem take_snoc'{α:Type}{l:List α}{k:Nat}(h:k<l.length):l.take (k+1)=l.take k++[l[k]]:=by rw[List.take_succ_eq_append_getElem h]
theorem zzp{α:Type}{p:α->Prop}{l:List α}{k:Nat}(h:k<l.length)(H:∀ e∈l.take k,p e)(G:p l[k]):∀ e∈l.take (k+1),p e:=by
 rw[take_snoc' h]
 intro e F
 rcases List.mem_append.1 F with F | F
 .exact H e F
 .simp at F;rw[F];exact G
@[simp] theorem ykq{a b:ByteArray}:a.toList=b.toList↔a=b:=by
 rw[<-MapKept.bytes_beq,beq_toListBytes,beq_iff_eq]
structure Dc.fit(d:Dc):Prop where
 notes:d.notes.length<=320
 tiers:d.tiers.length<=20
 spk:d.spk.length<=100
def Nt.zero:Nt:=⟨0,0,0,0,0,0,⟨#[]⟩⟩
def getN(l:List Nt)(id:Int):Nt×Bool:=match l.find? (λn=>decide (n.id=id)) with
 |some n=>(n,true)
 |none=>(Nt.zero,false)
def getD'(r:Nt×Bool):D:=.tup [.agg r.1.row,.bool r.2]
theorem z7i{l:List Nt}{id:Int}{k:Nat}(h:k<l.length)(H:∀ e∈l.take k,e.id≠id)(G:l[k].id=id):getN l id=(l[k],true):=by
 have:l.find? (λn=>decide (n.id=id))=some l[k]:=by
  rw[List.find?_eq_some_iff_append];refine⟨by simpa using G,l.take k,l.drop (k+1),by rw[List.getElem_cons_drop,List.take_append_drop],λe F=>by simpa using H e F⟩
 simp[getN,this]
theorem zzq{l:List Nt}{id:Int}(H:∀ e∈l,e.id≠id):getN l id=(Nt.zero,false):=by
 have:l.find? (λn=>decide (n.id=id))=none:=by rw[List.find?_eq_none];intro e G;simpa using H e G
 simp[getN,this]
abbrev zbd(d:Dc):List Sym:=[.d (int d.id),.d (.str d.name),.d (int d.len),.d (int d.day),.d (ints d.spk),.d (zad d.tiers),.d (zak d.notes)]
abbrev noteCells(n:Nt):List Sym:=[.d (int n.id),.d (int n.tier),.d (int n.par),.d (int n.fr),.d (int n.tO),.d (int n.rank),.d (.str n.text)]
theorem z7j(d:Dc)(id:Int)(G:d.notes.length<2^62):zan Tryz.prog 54 [docD d,int id] (getD' (getN d.notes id)):=by
 refine zab mixed Tryz.func54 rfl c_54 ?_
 simp+decide[Tryz.f54,docD,Dc.row,zak,zad,ints,int]
 refine zae mixed (λk:Nat=>{n:=22,next:=2,slots:=[(1,.d (int id)),(2,.bp 0 0),(4,.bp 1 0),(5,.d (.bool false)),(9,.d (zak d.notes)),(10,.d (.int .i64 d.notes.length)),(11,.d (.int .i64 k))],own:=[(0,.box 53 (zbd d)),(1,.box 72 (noteCells Nt.zero))]})
  (λk=>k<=d.notes.length/\∀ e∈d.notes.take k,e.id≠id) (λk=>d.notes.length-k) 0 (by simp) (by simp+decide[zak,zad,ints,int,Nt.zero]) ?_
 intro k ⟨F,E⟩
 by_cases H:k<d.notes.length
 .have e1:d.notes[k]?=some d.notes[k]:=List.getElem?_eq_getElem H
  simp+decide[zak,zad,ints,int,Nt.row,Nt.zero,e1,H,I64];refine⟨λh=>?_,λh=>⟨by omega,k+1,⟨H,zzp H E h⟩,by omega,by omega⟩⟩
  simp[getD',z7i H E h,Nt.row,int]
 .have:k=d.notes.length:=by omega
  subst this;rw[List.take_length] at E;simp+decide[zak,zad,ints,int,zzq E,getD',Nt.row,Nt.zero]
theorem zc0(d:Dc)(id:Int)(G:d.notes.length<2^62):zan Tryz.prog 36 [docD d,int id] (getD' (getN d.notes id)):=by
 refine zab mixed Tryz.func36 rfl c_36 ?_
 simp+decide[Tryz.f36,docD,Dc.row,zak,zad,ints,int]
 refine zae mixed (λk:Nat=>{n:=28,next:=2,slots:=[(1,.d (int id)),(2,.bp 0 0),(4,.bp 1 0),(5,.d (.bool false)),(6,.d (.int .i64 k))],own:=[(0,.box 53 (zbd d)),(1,.box 72 (noteCells Nt.zero))]})
  (λk=>k<=d.notes.length/\∀ e∈d.notes.take k,e.id≠id) (λk=>d.notes.length-k) 0 (by simp) (by simp+decide[zak,zad,ints,int,Nt.zero]) ?_
 intro k ⟨F,E⟩
 by_cases H:k<d.notes.length
 .have e1:d.notes[k]?=some d.notes[k]:=List.getElem?_eq_getElem H
  simp+decide[zak,zad,ints,int,Nt.row,Nt.zero,e1,H,I64];refine⟨λh=>?_,λh=>⟨by omega,k+1,⟨H,zzp H E h⟩,by omega,by omega⟩⟩
  simp[getD',z7i H E h,Nt.row,int]
 .have:k=d.notes.length:=by omega
  subst this;rw[List.take_length] at E;simp+decide[zak,zad,ints,int,zzq E,getD',Nt.row,Nt.zero]
theorem yli(a b:List Int)(E:b.length<2^62):zan Tryz.prog 62 [ints a,ints b] (.bool (decide (a=b))):=by
 refine zab mixed Tryz.func62 rfl c_62 ?_
 simp[Tryz.f62,ints]
 refine⟨λh e=>h (by rw[e]),λh=>?_⟩
 refine zae mixed (λk:Nat=>{n:=26,next:=0,slots:=[(0,.d (ints a)),(1,.d (ints b)),(5,.d (.int .i64 k))],own:=[]})
  (λk=>k<=a.length/\a.take k=b.take k) (λk=>a.length-k) 0 (by simp) (by simp[ints]) ?_
 intro k ⟨K,J⟩
 have h:a.length=b.length:=by omega
 by_cases G:k<a.length
 .have e1:a[k]?=some a[k]:=List.getElem?_eq_getElem G
  have e2:b[k]?=some (b[k]'(by omega)):=List.getElem?_eq_getElem (by omega)
  have H:k<b.length:=by omega
  simp+decide[ints,int,e1,e2,G,H,I64];refine⟨λF e=>by subst e;simp at F,λhe=>⟨by omega,k+1,⟨G,?_⟩,by omega,by omega⟩⟩
  rw[take_snoc' G,take_snoc' H,J,he]
 .have:k=a.length:=by omega
  subst this;simp+decide[ints];rw[List.take_length,h,List.take_length] at J;exact J
def nmS(b:Nat):Bool:=decide (97<=b)&&decide (b<=122)
def nmC(b:Nat):Bool:=nmS b || (decide (48<=b)&&decide (b<=57)) || decide (b=45) || decide (b=95)
def nameP(s:ByteArray):Bool:=decide (1<=s.size)&&decide (s.size<=32)&&nmS (zal s 0)&&(List.range s.size).all λk=>nmC (zal s k)
theorem zxe(b:Nat):(97<=b/\b<=122)\/(48<=b/\b<=57)\/b=45\/b=95\/(b<48/\b≠45)\/(57<b/\b<97/\b≠95)\/122<b:=by omega
theorem zow(s:ByteArray)(hs:s.size<=9223372036854775807):zan Tryz.prog 143 [.str s] (.bool (nameP s)):=by
 refine zab mixed Tryz.func143 rfl c_143 ?_
 simp+decide[Tryz.f143]
 refine zae mixed (λk:Nat=>{n:=59,next:=0,slots:=[(0,.d (.str s)),(3,.d (.int .i64 k))],own:=[]})
  (λk=>k<=s.size/\∀ j,j<k->(nmC (zal s j)=true/\(j=0->nmS (zal s 0)=true))) (λk=>s.size-k) 0 (by simp) (by simp+decide[int]) ?_
 intro k ⟨M,O⟩
 by_cases F:k<s.size
 .have H:(k:Int)<s.size:=by omega
  have e0:byteAt s (k:Int)=(zal s k:Int):=zb1 s k
  have good:nmC (zal s k)=true->(k=0->nmS (zal s k)=true)->∀ j,j<k+1->(nmC (zal s j)=true/\(j=0->nmS (zal s 0)=true)):=by
   intro Q T j V;rcases Nat.lt_or_ge j k with L | L
   .exact O j L
   .have:j=k:=by omega
    subst this;exact⟨Q,λe=>by subst e;exact T rfl⟩
  have bad:nmC (zal s k)=false->nameP s=false:=λQ=>by
   have:(List.range s.size).all (λk=>nmC (zal s k))=false:=by rw[List.all_eq_false];exact⟨k,by simpa using F,by simp[Q]⟩
   simp only[nameP,this,Bool.and_false]
  have bad0:k=0->nmS (zal s k)=false->nameP s=false:=λT Q=>by
   subst T;simp only[nameP,Q,Bool.and_false,Bool.false_and]
  generalize zal s k=b at e0 good bad bad0;by_cases hs:97<=b/\b<=122
  .obtain⟨c1,c2⟩:=hs
   have q1:(97:Int)<=b:=by omega
   have q2:(b:Int)<=122:=by omega
   have X:nmS b=true:=by simp[nmS];omega
   simp+decide[F,H,e0,q1,q2,I64];exact⟨by omega,k+1,⟨by omega,good (by simp[nmC,X]) (λ_=>X)⟩,by omega,by omega⟩
  .have X:nmS b=false:=by simp[nmS];omega
   by_cases E:k=0
   .subst E
    have Q:=bad0 rfl X;have e0':byteAt s 0=(b:Int):=e0
    by_cases q1:(97:Int)<=b
    .have q2:¬(b:Int)<=122:=by omega
     simp+decide[F,H,e0',q1,q2,Q]
    .simp+decide[F,H,e0',q1,Q]
   .have G:¬(k:Int)=0:=by omega
    have key:∀ (r:Bool),nmC b=r->(decide (97<=(b:Int))&&decide ((b:Int)<=122))=false:=λ_ _=>by simp;omega
    by_cases q1:(97:Int)<=b
    .have q2:¬(b:Int)<=122:=by omega
     have q3:¬(b:Int)=45:=by omega
     have q4:¬(b:Int)=95:=by omega
     have q5:¬(b:Int)<48:=by omega
     have q6:(57:Int)<b:=by omega
     have Q:=bad (by simp[nmC,X];omega)
     simp+decide[F,H,e0,q1,q2,q3,q4,q5,q6,E,G,Q]
    .rcases zxe b with⟨c1,c2⟩ | ⟨c1,c2⟩ | rfl | rfl | ⟨c1,c2⟩ | ⟨c1,c2,c3⟩ | c1
     .omega
     .have q3:¬(b:Int)=45:=by omega
      have q4:¬(b:Int)=95:=by omega
      have q5:¬(b:Int)<48:=by omega
      have q6:¬(57:Int)<b:=by omega
      simp+decide[F,H,e0,q1,q3,q4,q5,q6,E,G,I64];exact⟨by omega,k+1,⟨by omega,good (by simp[nmC];omega) (λh=>absurd h E)⟩,by omega,by omega⟩
     .simp+decide[F,H,e0,E,G,I64]
      exact⟨by omega,k+1,⟨by omega,good (by decide) (λh=>absurd h E)⟩,by omega,by omega⟩
     .simp+decide[F,H,e0,E,G,I64]
      exact⟨by omega,k+1,⟨by omega,good (by decide) (λh=>absurd h E)⟩,by omega,by omega⟩
     .have q3:¬(b:Int)=45:=by omega
      have q4:¬(b:Int)=95:=by omega
      have q5:(b:Int)<48:=by omega
      have Q:=bad (by simp[nmC,X];omega)
      simp+decide[F,H,e0,q1,q3,q4,q5,E,G,Q]
     .have q3:¬(b:Int)=45:=by omega
      have q4:¬(b:Int)=95:=by omega
      have q5:¬(b:Int)<48:=by omega
      have q6:(57:Int)<b:=by omega
      have Q:=bad (by simp[nmC,X];omega)
      simp+decide[F,H,e0,q1,q3,q4,q5,q6,E,G,Q]
     .omega
 .have:k=s.size:=by omega
  subst this;have K:(List.range s.size).all (λk=>nmC (zal s k))=true:=by
   rw[List.all_eq_true];intro j V;exact(O j (by simpa using V)).1
  by_cases Y:1<=s.size
  .have J:(1:Int)<=s.size:=by omega
   have X:=(O 0 (by omega)).2 rfl
   simp+decide[J,nameP,K,X,Y];omega
  .have J:¬(1:Int)<=s.size:=by omega
   simp+decide[J,nameP,Y]
def alK(k:Int):Bool:=decide (k=0) || decide (k=1) || decide (k=2)
def alT(l:List Tir)(i:Int):Bool:=decide (0<=i)&&decide (i<l.length)&&alK (l[i.toNat]?.getD default).kind
def z3o(l:List Tir)(name:ByteArray):Bool:=l.any λt=>decide (t.name=name)
def zzr(l:List Tir)(role:Int):Bool:=!decide (role=0)&&l.any λt=>decide (t.role=role)
def zam(pr tk tr:Int):Int:=
 if tr=1 then (if tk=0 then 0 else 14) else if tr=2 then (if pr=1 then 0 else 13) else if tr=3 then (if tk=3 then (if pr=2 then 0 else 13) else 14)
 else if tr=4 then (if tk=4 then (if pr=3 then 0 else 13) else 14) else if tr=5 then (if tk=4 then (if pr=1 then 0 else 13) else 14) else 0
def oneE(before:List Tir)(t:Tir):Int:=
 if nameP t.name=false then 7 else if z3o before t.name=true then 8 else if t.kind<0\/4<t.kind then 14 else if t.role<0\/5<t.role then 2
 else if zzr before t.role=true then 8 else if t.kind=0 then (if t.par = -1 then zam (-1) t.kind t.role else 13)
 else if t.par<0\/before.length<=t.par then 13
 else if alK t.kind=true/\alK (before[t.par.toNat]?.getD default).kind=false then 13 else zam (before[t.par.toNat]?.getD default).role t.kind t.role
def zjs(l:List Tir):Nat->Nat->Int
 |0,_=>0
 |n+1,i=>if h:i<l.length then (if oneE (l.take i) l[i]=0 then zjs l n (i+1) else oneE (l.take i) l[i]) else 0
def zhq(l:List Tir):Int:=if 12<l.length then 11 else zjs l l.length 0
theorem zar(k:Int):zan Tryz.prog 189 [int k] (.bool (alK k)):=by
 refine zab mixed Tryz.func189 rfl c_189 ?_
 by_cases H:k=0
 .subst H;simp+decide[Tryz.f189,int,alK]
 by_cases G:k=1
 .subst G;simp+decide[Tryz.f189,int,alK]
 by_cases h2:k=2
 .subst h2;simp+decide[Tryz.f189,int,alK]
 simp+decide[Tryz.f189,int,alK,H,G,h2]
def zaq(r:Int):Int:=if r=1 then 0 else if r=3 then 3 else if r=4 then 4 else if r=5 then 4 else -1
def overR(r:Int):Int:=if r=2 then 1 else if r=5 then 1 else if r=3 then 2 else if r=4 then 3 else -1
theorem zbj(r:Int):zan Tryz.prog 190 [int r] (int (zaq r)):=by
 refine zab mixed Tryz.func190 rfl c_190 ?_
 by_cases H:r=1
 .subst H;simp+decide[Tryz.f190,int,zaq]
 by_cases G:r=3
 .subst G;simp+decide[Tryz.f190,int,zaq]
 by_cases F:r=4
 .subst F;simp+decide[Tryz.f190,int,zaq]
 by_cases E:r=5
 .subst E;simp+decide[Tryz.f190,int,zaq]
 simp+decide[Tryz.f190,int,zaq,H,G,F,E]
theorem zbk(r:Int):zan Tryz.prog 191 [int r] (int (overR r)):=by
 refine zab mixed Tryz.func191 rfl c_191 ?_
 by_cases h2:r=2
 .subst h2;simp+decide[Tryz.f191,int,overR]
 by_cases H:r=5
 .subst H;simp+decide[Tryz.f191,int,overR]
 by_cases G:r=3
 .subst G;simp+decide[Tryz.f191,int,overR]
 by_cases F:r=4
 .subst F;simp+decide[Tryz.f191,int,overR]
 simp+decide[Tryz.f191,int,overR,h2,H,G,F]
theorem zxf{α:Type}{l:List α}{p:α->Bool}{k:Nat}(h:k<l.length):(l.take (k+1)).any p=((l.take k).any p || p l[k]):=by
 rw[List.take_succ_eq_append_getElem h,List.any_append];simp
theorem z92(l:List Tir)(i:Nat)(hi:i<l.length)(V:l.length<2^62)(hs:∀ t∈l,t.name.size<=9223372036854775807):zan Tryz.prog 131 [zad l,int i] (int (oneE (l.take i) l[i])):=by
 refine zab mixed Tryz.func131 rfl c_131 ?_
 have Q:(i:Int)<l.length:=by omega
 have ei:l[i]?=some l[i]:=List.getElem?_eq_getElem hi
 have E:(l.take i).length=i:=by rw[List.length_take];omega
 have O:=hs _ (List.getElem_mem hi)
 obtain⟨t,et⟩:∃ t,l[i]=t:=⟨_,rfl⟩
 rw[et] at O ei ⊢
 obtain⟨nm,kd,rl,pr⟩:=t
 simp+decide[Tryz.f131,zad,Tir.row,int,ei,et,hi,Q]
 refine zai.pure (by rfl) (zow nm O) (by simp) ?_
 by_cases X:nameP nm=true
 case neg=>simp+decide[X,oneE,int]
 simp+decide[X,int]
 refine zae mixed (λk:Nat=>{n:=136,next:=1,slots:=[(0,.d (zad l)),(1,.d (int i)),(4,.d (int 0)),(5,.bp 0 0),(6,.d (.int .i64 k))],own:=[(0,.box 74 [.d (.str nm),.d (int kd),.d (int rl),.d (int pr)])]})
  (λk=>k<=i/\z3o (l.take k) nm=false) (λk=>i-k) 0 (by simp[z3o]) (by simp+decide[zad,int]) ?_
 rintro k ⟨Y,Z⟩
 by_cases T:k<i
 .have G:(k:Int)<i:=by omega
  have L:k<l.length:=by omega
  have K:(k:Int)<l.length:=by omega
  have e1:l[k]?=some l[k]:=List.getElem?_eq_getElem L
  have M:z3o (l.take (k+1)) nm=decide (l[k].name=nm):=by unfold z3o at Z ⊢;rw[zxf L,Z,Bool.false_or]
  by_cases A:l[k].name=nm
  .have B:z3o (l.take i) nm=true:=by
    unfold z3o;rw[List.any_eq_true];exact⟨l[k],by rw[List.mem_take_iff_getElem];exact⟨k,by omega,rfl⟩,by simp[A]⟩
   simp+decide[zad,Tir.row,int,e1,L,K,G,A,oneE,X,B]
  .simp+decide[zad,Tir.row,int,e1,L,K,G,A,I64]
   exact⟨by omega,k+1,⟨by omega,by rw[M];simp[A]⟩,by omega,by omega⟩
 have:k=i:=by omega
 subst this
 by_cases k1:kd<0
 .simp+decide[int,zad,k1,oneE,X,Z]
 by_cases k2:4<kd
 .simp+decide[int,zad,k1,k2,oneE,X,Z]
 by_cases r1:rl<0
 .simp+decide[int,zad,k1,k2,r1,oneE,X,Z]
 by_cases r2:5<rl
 .simp+decide[int,zad,k1,k2,r1,r2,oneE,X,Z]
 simp+decide[int,zad,k1,k2,r1,r2]
 refine zae mixed (λj:Nat=>{n:=136,next:=1,slots:=[(0,.d (zad l)),(1,.d (int k)),(4,.d (int 0)),(5,.bp 0 0),(7,.d (.int .i64 j))],own:=[(0,.box 74 [.d (.str nm),.d (int kd),.d (int rl),.d (int pr)])]})
  (λj=>j<=k/\zzr (l.take j) rl=false) (λj=>k-j) 0 (by simp[zzr]) (by simp+decide[zad,int]) ?_
 rintro j ⟨C,I⟩
 by_cases T:j<k
 .have G:(j:Int)<k:=by omega
  have J:j<l.length:=by omega
  have F:(j:Int)<l.length:=by omega
  have e1:l[j]?=some l[j]:=List.getElem?_eq_getElem J
  by_cases z:rl=0
  .subst z
   simp+decide[zad,Tir.row,int,e1,J,F,G,I64];exact⟨by omega,j+1,⟨by omega,by simp[zzr]⟩,by omega,by omega⟩
  have M:zzr (l.take (j+1)) rl=decide (l[j].role=rl):=by
   unfold zzr at I ⊢;simp only[z,decide_false,Bool.not_false,Bool.true_and] at I ⊢;rw[zxf J,I,Bool.false_or]
  by_cases A:l[j].role=rl
  .have B:zzr (l.take k) rl=true:=by
    unfold zzr;simp only[z,decide_false,Bool.not_false,Bool.true_and];rw[List.any_eq_true];exact⟨l[j],by rw[List.mem_take_iff_getElem];exact⟨j,by omega,rfl⟩,by simp[A]⟩
   simp+decide[zad,Tir.row,int,e1,J,F,G,A,oneE,X,Z,B,k1,k2,r1,r2,z]
  .simp+decide[zad,Tir.row,int,e1,J,F,G,A,I64,z]
   exact⟨by omega,j+1,⟨by omega,by rw[M];simp[A]⟩,by omega,by omega⟩
 have:j=k:=by omega
 subst this
 have N:oneE (l.take j) ⟨nm,kd,rl,pr⟩=if kd=0 then (if pr = -1 then zam (-1) kd rl else 13) else if pr<0\/(j:Int)<=pr then 13 else if alK kd=true/\alK ((l.take j)[pr.toNat]?.getD default).kind=false then 13 else zam ((l.take j)[pr.toNat]?.getD default).role kd rl:=by
  simp only[oneE];rw[if_neg (by simp[X]),if_neg (by simp[Z]),if_neg (by omega),if_neg (by omega),if_neg (by simp[I]),E]
 rw[N]
 clear N Z I X E
 by_cases k0:kd=0
 .subst k0
  by_cases p0:pr = -1
  case neg=>
   simp+decide[int,zad,Tir.row,p0]
  subst p0;rcases(by omega:rl=0\/rl=1\/rl=2\/rl=3\/rl=4\/rl=5) with rfl | rfl | rfl | rfl | rfl | rfl
  .skip
   simp+decide[int,zad,Tir.row,zam,zaq,overR];repeat first
    |(refine zaa (by rfl) (by rfl) (zbj _) (by simp[int]) ?_;simp+decide[int,zad,Tir.row,zam,zaq,overR])
    |(refine zaa (by rfl) (by rfl) (zbk _) (by simp[int]) ?_;simp+decide[int,zad,Tir.row,zam,zaq,overR])
    |(refine zaa (by rfl) (by rfl) (zar _) (by simp[int]) ?_;simp+decide[int,zad,Tir.row,zam,zaq,overR])
    |(refine zai.pure (by rfl) (zar _) (by simp[int]) ?_;simp+decide[int,zad,Tir.row,zam,zaq,overR])
  .skip
   simp+decide[int,zad,Tir.row,zam,zaq,overR];repeat first
    |(refine zaa (by rfl) (by rfl) (zbj _) (by simp[int]) ?_;simp+decide[int,zad,Tir.row,zam,zaq,overR])
    |(refine zaa (by rfl) (by rfl) (zbk _) (by simp[int]) ?_;simp+decide[int,zad,Tir.row,zam,zaq,overR])
    |(refine zaa (by rfl) (by rfl) (zar _) (by simp[int]) ?_;simp+decide[int,zad,Tir.row,zam,zaq,overR])
    |(refine zai.pure (by rfl) (zar _) (by simp[int]) ?_;simp+decide[int,zad,Tir.row,zam,zaq,overR])
  .skip
   simp+decide[int,zad,Tir.row,zam,zaq,overR];repeat first
    |(refine zaa (by rfl) (by rfl) (zbj _) (by simp[int]) ?_;simp+decide[int,zad,Tir.row,zam,zaq,overR])
    |(refine zaa (by rfl) (by rfl) (zbk _) (by simp[int]) ?_;simp+decide[int,zad,Tir.row,zam,zaq,overR])
    |(refine zaa (by rfl) (by rfl) (zar _) (by simp[int]) ?_;simp+decide[int,zad,Tir.row,zam,zaq,overR])
    |(refine zai.pure (by rfl) (zar _) (by simp[int]) ?_;simp+decide[int,zad,Tir.row,zam,zaq,overR])
  .skip
   simp+decide[int,zad,Tir.row,zam,zaq,overR];repeat first
    |(refine zaa (by rfl) (by rfl) (zbj _) (by simp[int]) ?_;simp+decide[int,zad,Tir.row,zam,zaq,overR])
    |(refine zaa (by rfl) (by rfl) (zbk _) (by simp[int]) ?_;simp+decide[int,zad,Tir.row,zam,zaq,overR])
    |(refine zaa (by rfl) (by rfl) (zar _) (by simp[int]) ?_;simp+decide[int,zad,Tir.row,zam,zaq,overR])
    |(refine zai.pure (by rfl) (zar _) (by simp[int]) ?_;simp+decide[int,zad,Tir.row,zam,zaq,overR])
  .skip
   simp+decide[int,zad,Tir.row,zam,zaq,overR];repeat first
    |(refine zaa (by rfl) (by rfl) (zbj _) (by simp[int]) ?_;simp+decide[int,zad,Tir.row,zam,zaq,overR])
    |(refine zaa (by rfl) (by rfl) (zbk _) (by simp[int]) ?_;simp+decide[int,zad,Tir.row,zam,zaq,overR])
    |(refine zaa (by rfl) (by rfl) (zar _) (by simp[int]) ?_;simp+decide[int,zad,Tir.row,zam,zaq,overR])
    |(refine zai.pure (by rfl) (zar _) (by simp[int]) ?_;simp+decide[int,zad,Tir.row,zam,zaq,overR])
  .skip
   simp+decide[int,zad,Tir.row,zam,zaq,overR];repeat first
    |(refine zaa (by rfl) (by rfl) (zbj _) (by simp[int]) ?_;simp+decide[int,zad,Tir.row,zam,zaq,overR])
    |(refine zaa (by rfl) (by rfl) (zbk _) (by simp[int]) ?_;simp+decide[int,zad,Tir.row,zam,zaq,overR])
    |(refine zaa (by rfl) (by rfl) (zar _) (by simp[int]) ?_;simp+decide[int,zad,Tir.row,zam,zaq,overR])
    |(refine zai.pure (by rfl) (zar _) (by simp[int]) ?_;simp+decide[int,zad,Tir.row,zam,zaq,overR])
 by_cases p0:pr<0
 .simp+decide[int,zad,Tir.row,k0,p0]
 by_cases p1:(j:Int)<=pr
 .simp+decide[int,zad,Tir.row,k0,p0,p1]
 obtain⟨q,rfl⟩:∃ q:Nat,pr=q:=⟨pr.toNat,by omega⟩
 have A:q<l.length:=by omega
 have H:(q:Int)<l.length:=by omega
 obtain⟨u,eu'⟩:∃ u,l[q]=u:=⟨_,rfl⟩
 have eu:l[q]?=some u:=by rw[List.getElem?_eq_getElem A,eu']
 have et:(l.take j)[(q:Int).toNat]?=some u:=by rw[Int.toNat_natCast,List.getElem?_take,if_pos (by omega),eu]
 obtain⟨un,uk,ur,up⟩:=u
 rw[et]
 simp only[Option.getD_some]
 by_cases a1:alK kd=true
 .by_cases a2:alK uk=true
  case neg=>
   simp+decide[int,zad,Tir.row,k0,p0,p1,A,H,eu,eu',a1,a2,zaq,overR];repeat first
    |(refine zaa (by rfl) (by rfl) (zbj _) (by simp[int]) ?_;simp+decide[int,zad,Tir.row,k0,p0,p1,A,H,eu,eu',a1,a2,zaq,overR])
    |(refine zaa (by rfl) (by rfl) (zbk _) (by simp[int]) ?_;simp+decide[int,zad,Tir.row,k0,p0,p1,A,H,eu,eu',a1,a2,zaq,overR])
    |(refine zaa (by rfl) (by rfl) (zar _) (by simp[int]) ?_;simp+decide[int,zad,Tir.row,k0,p0,p1,A,H,eu,eu',a1,a2,zaq,overR])
    |(refine zai.pure (by rfl) (zar _) (by simp[int]) ?_;simp+decide[int,zad,Tir.row,k0,p0,p1,A,H,eu,eu',a1,a2,zaq,overR])
  rcases(by omega:rl=0\/rl=1\/rl=2\/rl=3\/rl=4\/rl=5) with rfl | rfl | rfl | rfl | rfl | rfl
  .skip
   simp+decide[int,zad,Tir.row,k0,p0,p1,A,H,eu,eu',a1,a2,zam,zaq,overR];repeat first
    |(refine zaa (by rfl) (by rfl) (zbj _) (by simp[int]) ?_;simp+decide[int,zad,Tir.row,k0,p0,p1,A,H,eu,eu',a1,a2,zam,zaq,overR])
    |(refine zaa (by rfl) (by rfl) (zbk _) (by simp[int]) ?_;simp+decide[int,zad,Tir.row,k0,p0,p1,A,H,eu,eu',a1,a2,zam,zaq,overR])
    |(refine zaa (by rfl) (by rfl) (zar _) (by simp[int]) ?_;simp+decide[int,zad,Tir.row,k0,p0,p1,A,H,eu,eu',a1,a2,zam,zaq,overR])
    |(refine zai.pure (by rfl) (zar _) (by simp[int]) ?_;simp+decide[int,zad,Tir.row,k0,p0,p1,A,H,eu,eu',a1,a2,zam,zaq,overR])
  .skip
   simp+decide[int,zad,Tir.row,k0,p0,p1,A,H,eu,eu',a1,a2,zam,zaq,overR];repeat first
    |(refine zaa (by rfl) (by rfl) (zbj _) (by simp[int]) ?_;simp+decide[int,zad,Tir.row,k0,p0,p1,A,H,eu,eu',a1,a2,zam,zaq,overR])
    |(refine zaa (by rfl) (by rfl) (zbk _) (by simp[int]) ?_;simp+decide[int,zad,Tir.row,k0,p0,p1,A,H,eu,eu',a1,a2,zam,zaq,overR])
    |(refine zaa (by rfl) (by rfl) (zar _) (by simp[int]) ?_;simp+decide[int,zad,Tir.row,k0,p0,p1,A,H,eu,eu',a1,a2,zam,zaq,overR])
    |(refine zai.pure (by rfl) (zar _) (by simp[int]) ?_;simp+decide[int,zad,Tir.row,k0,p0,p1,A,H,eu,eu',a1,a2,zam,zaq,overR])
  .skip
   by_cases o1:ur=1
   .skip
    simp+decide[int,zad,Tir.row,k0,p0,p1,A,H,eu,eu',a1,a2,zam,o1,zaq,overR];repeat first
     |(refine zaa (by rfl) (by rfl) (zbj _) (by simp[int]) ?_;simp+decide[int,zad,Tir.row,k0,p0,p1,A,H,eu,eu',a1,a2,zam,o1,zaq,overR])
     |(refine zaa (by rfl) (by rfl) (zbk _) (by simp[int]) ?_;simp+decide[int,zad,Tir.row,k0,p0,p1,A,H,eu,eu',a1,a2,zam,o1,zaq,overR])
     |(refine zaa (by rfl) (by rfl) (zar _) (by simp[int]) ?_;simp+decide[int,zad,Tir.row,k0,p0,p1,A,H,eu,eu',a1,a2,zam,o1,zaq,overR])
     |(refine zai.pure (by rfl) (zar _) (by simp[int]) ?_;simp+decide[int,zad,Tir.row,k0,p0,p1,A,H,eu,eu',a1,a2,zam,o1,zaq,overR])
   .skip
    simp+decide[int,zad,Tir.row,k0,p0,p1,A,H,eu,eu',a1,a2,zam,o1,zaq,overR];repeat first
     |(refine zaa (by rfl) (by rfl) (zbj _) (by simp[int]) ?_;simp+decide[int,zad,Tir.row,k0,p0,p1,A,H,eu,eu',a1,a2,zam,o1,zaq,overR])
     |(refine zaa (by rfl) (by rfl) (zbk _) (by simp[int]) ?_;simp+decide[int,zad,Tir.row,k0,p0,p1,A,H,eu,eu',a1,a2,zam,o1,zaq,overR])
     |(refine zaa (by rfl) (by rfl) (zar _) (by simp[int]) ?_;simp+decide[int,zad,Tir.row,k0,p0,p1,A,H,eu,eu',a1,a2,zam,o1,zaq,overR])
     |(refine zai.pure (by rfl) (zar _) (by simp[int]) ?_;simp+decide[int,zad,Tir.row,k0,p0,p1,A,H,eu,eu',a1,a2,zam,o1,zaq,overR])
  .skip
   by_cases n1:kd=3
   case neg=>
    simp+decide[int,zad,Tir.row,k0,p0,p1,A,H,eu,eu',a1,a2,zam,n1,zaq,overR];repeat first
     |(refine zaa (by rfl) (by rfl) (zbj _) (by simp[int]) ?_;simp+decide[int,zad,Tir.row,k0,p0,p1,A,H,eu,eu',a1,a2,zam,n1,zaq,overR])
     |(refine zaa (by rfl) (by rfl) (zbk _) (by simp[int]) ?_;simp+decide[int,zad,Tir.row,k0,p0,p1,A,H,eu,eu',a1,a2,zam,n1,zaq,overR])
     |(refine zaa (by rfl) (by rfl) (zar _) (by simp[int]) ?_;simp+decide[int,zad,Tir.row,k0,p0,p1,A,H,eu,eu',a1,a2,zam,n1,zaq,overR])
     |(refine zai.pure (by rfl) (zar _) (by simp[int]) ?_;simp+decide[int,zad,Tir.row,k0,p0,p1,A,H,eu,eu',a1,a2,zam,n1,zaq,overR])
   subst n1;exact absurd a1 (by decide)
  .skip
   by_cases n1:kd=4
   case neg=>
    simp+decide[int,zad,Tir.row,k0,p0,p1,A,H,eu,eu',a1,a2,zam,n1,zaq,overR];repeat first
     |(refine zaa (by rfl) (by rfl) (zbj _) (by simp[int]) ?_;simp+decide[int,zad,Tir.row,k0,p0,p1,A,H,eu,eu',a1,a2,zam,n1,zaq,overR])
     |(refine zaa (by rfl) (by rfl) (zbk _) (by simp[int]) ?_;simp+decide[int,zad,Tir.row,k0,p0,p1,A,H,eu,eu',a1,a2,zam,n1,zaq,overR])
     |(refine zaa (by rfl) (by rfl) (zar _) (by simp[int]) ?_;simp+decide[int,zad,Tir.row,k0,p0,p1,A,H,eu,eu',a1,a2,zam,n1,zaq,overR])
     |(refine zai.pure (by rfl) (zar _) (by simp[int]) ?_;simp+decide[int,zad,Tir.row,k0,p0,p1,A,H,eu,eu',a1,a2,zam,n1,zaq,overR])
   subst n1;exact absurd a1 (by decide)
  .skip
   by_cases n1:kd=4
   case neg=>
    simp+decide[int,zad,Tir.row,k0,p0,p1,A,H,eu,eu',a1,a2,zam,n1,zaq,overR];repeat first
     |(refine zaa (by rfl) (by rfl) (zbj _) (by simp[int]) ?_;simp+decide[int,zad,Tir.row,k0,p0,p1,A,H,eu,eu',a1,a2,zam,n1,zaq,overR])
     |(refine zaa (by rfl) (by rfl) (zbk _) (by simp[int]) ?_;simp+decide[int,zad,Tir.row,k0,p0,p1,A,H,eu,eu',a1,a2,zam,n1,zaq,overR])
     |(refine zaa (by rfl) (by rfl) (zar _) (by simp[int]) ?_;simp+decide[int,zad,Tir.row,k0,p0,p1,A,H,eu,eu',a1,a2,zam,n1,zaq,overR])
     |(refine zai.pure (by rfl) (zar _) (by simp[int]) ?_;simp+decide[int,zad,Tir.row,k0,p0,p1,A,H,eu,eu',a1,a2,zam,n1,zaq,overR])
   subst n1;exact absurd a1 (by decide)
 .skip
  rcases(by omega:rl=0\/rl=1\/rl=2\/rl=3\/rl=4\/rl=5) with rfl | rfl | rfl | rfl | rfl | rfl
  .skip
   simp+decide[int,zad,Tir.row,k0,p0,p1,A,H,eu,eu',a1,zam,zaq,overR];repeat first
    |(refine zaa (by rfl) (by rfl) (zbj _) (by simp[int]) ?_;simp+decide[int,zad,Tir.row,k0,p0,p1,A,H,eu,eu',a1,zam,zaq,overR])
    |(refine zaa (by rfl) (by rfl) (zbk _) (by simp[int]) ?_;simp+decide[int,zad,Tir.row,k0,p0,p1,A,H,eu,eu',a1,zam,zaq,overR])
    |(refine zaa (by rfl) (by rfl) (zar _) (by simp[int]) ?_;simp+decide[int,zad,Tir.row,k0,p0,p1,A,H,eu,eu',a1,zam,zaq,overR])
    |(refine zai.pure (by rfl) (zar _) (by simp[int]) ?_;simp+decide[int,zad,Tir.row,k0,p0,p1,A,H,eu,eu',a1,zam,zaq,overR])
  .skip
   simp+decide[int,zad,Tir.row,k0,p0,p1,A,H,eu,eu',a1,zam,zaq,overR];repeat first
    |(refine zaa (by rfl) (by rfl) (zbj _) (by simp[int]) ?_;simp+decide[int,zad,Tir.row,k0,p0,p1,A,H,eu,eu',a1,zam,zaq,overR])
    |(refine zaa (by rfl) (by rfl) (zbk _) (by simp[int]) ?_;simp+decide[int,zad,Tir.row,k0,p0,p1,A,H,eu,eu',a1,zam,zaq,overR])
    |(refine zaa (by rfl) (by rfl) (zar _) (by simp[int]) ?_;simp+decide[int,zad,Tir.row,k0,p0,p1,A,H,eu,eu',a1,zam,zaq,overR])
    |(refine zai.pure (by rfl) (zar _) (by simp[int]) ?_;simp+decide[int,zad,Tir.row,k0,p0,p1,A,H,eu,eu',a1,zam,zaq,overR])
  .skip
   by_cases o1:ur=1
   .skip
    simp+decide[int,zad,Tir.row,k0,p0,p1,A,H,eu,eu',a1,zam,o1,zaq,overR];repeat first
     |(refine zaa (by rfl) (by rfl) (zbj _) (by simp[int]) ?_;simp+decide[int,zad,Tir.row,k0,p0,p1,A,H,eu,eu',a1,zam,o1,zaq,overR])
     |(refine zaa (by rfl) (by rfl) (zbk _) (by simp[int]) ?_;simp+decide[int,zad,Tir.row,k0,p0,p1,A,H,eu,eu',a1,zam,o1,zaq,overR])
     |(refine zaa (by rfl) (by rfl) (zar _) (by simp[int]) ?_;simp+decide[int,zad,Tir.row,k0,p0,p1,A,H,eu,eu',a1,zam,o1,zaq,overR])
     |(refine zai.pure (by rfl) (zar _) (by simp[int]) ?_;simp+decide[int,zad,Tir.row,k0,p0,p1,A,H,eu,eu',a1,zam,o1,zaq,overR])
   .skip
    simp+decide[int,zad,Tir.row,k0,p0,p1,A,H,eu,eu',a1,zam,o1,zaq,overR];repeat first
     |(refine zaa (by rfl) (by rfl) (zbj _) (by simp[int]) ?_;simp+decide[int,zad,Tir.row,k0,p0,p1,A,H,eu,eu',a1,zam,o1,zaq,overR])
     |(refine zaa (by rfl) (by rfl) (zbk _) (by simp[int]) ?_;simp+decide[int,zad,Tir.row,k0,p0,p1,A,H,eu,eu',a1,zam,o1,zaq,overR])
     |(refine zaa (by rfl) (by rfl) (zar _) (by simp[int]) ?_;simp+decide[int,zad,Tir.row,k0,p0,p1,A,H,eu,eu',a1,zam,o1,zaq,overR])
     |(refine zai.pure (by rfl) (zar _) (by simp[int]) ?_;simp+decide[int,zad,Tir.row,k0,p0,p1,A,H,eu,eu',a1,zam,o1,zaq,overR])
  .skip
   by_cases n1:kd=3
   case neg=>
    simp+decide[int,zad,Tir.row,k0,p0,p1,A,H,eu,eu',a1,zam,n1,zaq,overR];repeat first
     |(refine zaa (by rfl) (by rfl) (zbj _) (by simp[int]) ?_;simp+decide[int,zad,Tir.row,k0,p0,p1,A,H,eu,eu',a1,zam,n1,zaq,overR])
     |(refine zaa (by rfl) (by rfl) (zbk _) (by simp[int]) ?_;simp+decide[int,zad,Tir.row,k0,p0,p1,A,H,eu,eu',a1,zam,n1,zaq,overR])
     |(refine zaa (by rfl) (by rfl) (zar _) (by simp[int]) ?_;simp+decide[int,zad,Tir.row,k0,p0,p1,A,H,eu,eu',a1,zam,n1,zaq,overR])
     |(refine zai.pure (by rfl) (zar _) (by simp[int]) ?_;simp+decide[int,zad,Tir.row,k0,p0,p1,A,H,eu,eu',a1,zam,n1,zaq,overR])
   subst n1;by_cases o1:ur=2
   .skip
    simp+decide[int,zad,Tir.row,k0,p0,p1,A,H,eu,eu',a1,zam,o1,zaq,overR];repeat first
     |(refine zaa (by rfl) (by rfl) (zbj _) (by simp[int]) ?_;simp+decide[int,zad,Tir.row,k0,p0,p1,A,H,eu,eu',a1,zam,o1,zaq,overR])
     |(refine zaa (by rfl) (by rfl) (zbk _) (by simp[int]) ?_;simp+decide[int,zad,Tir.row,k0,p0,p1,A,H,eu,eu',a1,zam,o1,zaq,overR])
     |(refine zaa (by rfl) (by rfl) (zar _) (by simp[int]) ?_;simp+decide[int,zad,Tir.row,k0,p0,p1,A,H,eu,eu',a1,zam,o1,zaq,overR])
     |(refine zai.pure (by rfl) (zar _) (by simp[int]) ?_;simp+decide[int,zad,Tir.row,k0,p0,p1,A,H,eu,eu',a1,zam,o1,zaq,overR])
   .skip
    simp+decide[int,zad,Tir.row,k0,p0,p1,A,H,eu,eu',a1,zam,o1,zaq,overR];repeat first
     |(refine zaa (by rfl) (by rfl) (zbj _) (by simp[int]) ?_;simp+decide[int,zad,Tir.row,k0,p0,p1,A,H,eu,eu',a1,zam,o1,zaq,overR])
     |(refine zaa (by rfl) (by rfl) (zbk _) (by simp[int]) ?_;simp+decide[int,zad,Tir.row,k0,p0,p1,A,H,eu,eu',a1,zam,o1,zaq,overR])
     |(refine zaa (by rfl) (by rfl) (zar _) (by simp[int]) ?_;simp+decide[int,zad,Tir.row,k0,p0,p1,A,H,eu,eu',a1,zam,o1,zaq,overR])
     |(refine zai.pure (by rfl) (zar _) (by simp[int]) ?_;simp+decide[int,zad,Tir.row,k0,p0,p1,A,H,eu,eu',a1,zam,o1,zaq,overR])
  .skip
   by_cases n1:kd=4
   case neg=>
    simp+decide[int,zad,Tir.row,k0,p0,p1,A,H,eu,eu',a1,zam,n1,zaq,overR];repeat first
     |(refine zaa (by rfl) (by rfl) (zbj _) (by simp[int]) ?_;simp+decide[int,zad,Tir.row,k0,p0,p1,A,H,eu,eu',a1,zam,n1,zaq,overR])
     |(refine zaa (by rfl) (by rfl) (zbk _) (by simp[int]) ?_;simp+decide[int,zad,Tir.row,k0,p0,p1,A,H,eu,eu',a1,zam,n1,zaq,overR])
     |(refine zaa (by rfl) (by rfl) (zar _) (by simp[int]) ?_;simp+decide[int,zad,Tir.row,k0,p0,p1,A,H,eu,eu',a1,zam,n1,zaq,overR])
     |(refine zai.pure (by rfl) (zar _) (by simp[int]) ?_;simp+decide[int,zad,Tir.row,k0,p0,p1,A,H,eu,eu',a1,zam,n1,zaq,overR])
   subst n1;by_cases o1:ur=3
   .skip
    simp+decide[int,zad,Tir.row,k0,p0,p1,A,H,eu,eu',a1,zam,o1,zaq,overR];repeat first
     |(refine zaa (by rfl) (by rfl) (zbj _) (by simp[int]) ?_;simp+decide[int,zad,Tir.row,k0,p0,p1,A,H,eu,eu',a1,zam,o1,zaq,overR])
     |(refine zaa (by rfl) (by rfl) (zbk _) (by simp[int]) ?_;simp+decide[int,zad,Tir.row,k0,p0,p1,A,H,eu,eu',a1,zam,o1,zaq,overR])
     |(refine zaa (by rfl) (by rfl) (zar _) (by simp[int]) ?_;simp+decide[int,zad,Tir.row,k0,p0,p1,A,H,eu,eu',a1,zam,o1,zaq,overR])
     |(refine zai.pure (by rfl) (zar _) (by simp[int]) ?_;simp+decide[int,zad,Tir.row,k0,p0,p1,A,H,eu,eu',a1,zam,o1,zaq,overR])
   .skip
    simp+decide[int,zad,Tir.row,k0,p0,p1,A,H,eu,eu',a1,zam,o1,zaq,overR];repeat first
     |(refine zaa (by rfl) (by rfl) (zbj _) (by simp[int]) ?_;simp+decide[int,zad,Tir.row,k0,p0,p1,A,H,eu,eu',a1,zam,o1,zaq,overR])
     |(refine zaa (by rfl) (by rfl) (zbk _) (by simp[int]) ?_;simp+decide[int,zad,Tir.row,k0,p0,p1,A,H,eu,eu',a1,zam,o1,zaq,overR])
     |(refine zaa (by rfl) (by rfl) (zar _) (by simp[int]) ?_;simp+decide[int,zad,Tir.row,k0,p0,p1,A,H,eu,eu',a1,zam,o1,zaq,overR])
     |(refine zai.pure (by rfl) (zar _) (by simp[int]) ?_;simp+decide[int,zad,Tir.row,k0,p0,p1,A,H,eu,eu',a1,zam,o1,zaq,overR])
  .skip
   by_cases n1:kd=4
   case neg=>
    simp+decide[int,zad,Tir.row,k0,p0,p1,A,H,eu,eu',a1,zam,n1,zaq,overR];repeat first
     |(refine zaa (by rfl) (by rfl) (zbj _) (by simp[int]) ?_;simp+decide[int,zad,Tir.row,k0,p0,p1,A,H,eu,eu',a1,zam,n1,zaq,overR])
     |(refine zaa (by rfl) (by rfl) (zbk _) (by simp[int]) ?_;simp+decide[int,zad,Tir.row,k0,p0,p1,A,H,eu,eu',a1,zam,n1,zaq,overR])
     |(refine zaa (by rfl) (by rfl) (zar _) (by simp[int]) ?_;simp+decide[int,zad,Tir.row,k0,p0,p1,A,H,eu,eu',a1,zam,n1,zaq,overR])
     |(refine zai.pure (by rfl) (zar _) (by simp[int]) ?_;simp+decide[int,zad,Tir.row,k0,p0,p1,A,H,eu,eu',a1,zam,n1,zaq,overR])
   subst n1;by_cases o1:ur=1
   .skip
    simp+decide[int,zad,Tir.row,k0,p0,p1,A,H,eu,eu',a1,zam,o1,zaq,overR];repeat first
     |(refine zaa (by rfl) (by rfl) (zbj _) (by simp[int]) ?_;simp+decide[int,zad,Tir.row,k0,p0,p1,A,H,eu,eu',a1,zam,o1,zaq,overR])
     |(refine zaa (by rfl) (by rfl) (zbk _) (by simp[int]) ?_;simp+decide[int,zad,Tir.row,k0,p0,p1,A,H,eu,eu',a1,zam,o1,zaq,overR])
     |(refine zaa (by rfl) (by rfl) (zar _) (by simp[int]) ?_;simp+decide[int,zad,Tir.row,k0,p0,p1,A,H,eu,eu',a1,zam,o1,zaq,overR])
     |(refine zai.pure (by rfl) (zar _) (by simp[int]) ?_;simp+decide[int,zad,Tir.row,k0,p0,p1,A,H,eu,eu',a1,zam,o1,zaq,overR])
   .skip
    simp+decide[int,zad,Tir.row,k0,p0,p1,A,H,eu,eu',a1,zam,o1,zaq,overR];repeat first
     |(refine zaa (by rfl) (by rfl) (zbj _) (by simp[int]) ?_;simp+decide[int,zad,Tir.row,k0,p0,p1,A,H,eu,eu',a1,zam,o1,zaq,overR])
     |(refine zaa (by rfl) (by rfl) (zbk _) (by simp[int]) ?_;simp+decide[int,zad,Tir.row,k0,p0,p1,A,H,eu,eu',a1,zam,o1,zaq,overR])
     |(refine zaa (by rfl) (by rfl) (zar _) (by simp[int]) ?_;simp+decide[int,zad,Tir.row,k0,p0,p1,A,H,eu,eu',a1,zam,o1,zaq,overR])
     |(refine zai.pure (by rfl) (zar _) (by simp[int]) ?_;simp+decide[int,zad,Tir.row,k0,p0,p1,A,H,eu,eu',a1,zam,o1,zaq,overR])
theorem z3p(l:List Tir)(E:l.length<2^62)(hs:∀ t∈l,t.name.size<=9223372036854775807):zan Tryz.prog 79 [zad l] (int (zhq l)):=by
 refine zab mixed Tryz.func79 rfl c_79 ?_
 by_cases K:12<l.length
 .have H:(12:Int)<l.length:=by omega
  simp+decide[Tryz.f79,zad,int,H,zhq,K]
 have H:¬(12:Int)<l.length:=by omega
 simp+decide[Tryz.f79,zad,int,H,zhq,K]
 refine zae mixed (λk:Nat=>{n:=20,next:=0,slots:=[(0,.d (zad l)),(3,.d (.int .i64 k))],own:=[]})
  (λk=>k<=l.length/\zjs l l.length 0=zjs l (l.length-k) k) (λk=>l.length-k) 0 (by simp) (by simp+decide[zad,int]) ?_
 intro k ⟨J,L⟩
 by_cases F:k<l.length
 .have G:(k:Int)<l.length:=by omega
  obtain⟨m,M⟩:∃ m,l.length-k=m+1:=⟨l.length-k-1,by omega⟩
  rw[M] at L;simp only[zjs,dif_pos F] at L;simp+decide[zad,int,G];refine zai.pure (by rfl) (z92 l k F E hs) (by simp[zad,int]) ?_
  by_cases O:oneE (l.take k) l[k]=0
  .rw[if_pos O] at L
   simp+decide[int,O,I64];exact⟨by omega,k+1,⟨by omega,by rw[L];congr 1;omega⟩,by omega,by simp[zad]⟩
  .rw[if_neg O] at L
   simp+decide[int,O,L]
 .have:k=l.length:=by omega
  subst this;rw[Nat.sub_self] at L;simp+decide[zad,int,L,zjs]
theorem wrap_u8(n:Int):IntKind.wrap .u8 n=n%256:=by
 simp[IntKind.wrap,IntKind.bits,IntKind.signed]
theorem zhd{n:Int}{m:Nat}(h:n=(m:Int)):UInt8.ofNat (IntKind.wrap .u8 n).toNat=UInt8.ofNat m:=by
 subst h
 apply UInt8.toNat_inj.1
 rw[wrap_u8]
 simp only[UInt8.toNat_ofNat']
 omega
theorem wrap_i64{n:Int}(h:I64 n):IntKind.wrap .i64 n=n:=by
 obtain⟨H,h2⟩:=h
 simp[IntKind.wrap,IntKind.bits,IntKind.signed]
 split <;> omega
theorem zel(s:ByteArray)(k:Nat):IntKind.wrap .i64 (zal s k:Int)=(zal s k:Int):=by
 have:zal s k<256:=UInt8.toNat_lt _
 exact wrap_i64 ⟨by omega,by omega⟩
theorem zem(p:Nat):zan Tryz.prog 257 [int p] (.bool (decide (zck p))):=by
 refine zab mixed Tryz.func257 rfl c_257 ?_
 by_cases H:(p:Int)<=1114111
 .by_cases h2:(p:Int)<55296
  .have:zck p:=⟨by omega,by omega⟩
   simp+decide[Tryz.f257,int,H,h2,this]
  .have G:zck p↔(57343:Int)<p:=⟨λh=>by have:=h.2;omega,λh=>⟨by omega,by omega⟩⟩
   simp+decide[Tryz.f257,int,H,h2,G]
 .have:¬zck p:=λh=>H (by have:=h.1;omega)
  simp+decide[Tryz.f257,int,H,this]
def encS(p:Nat):ByteArray:=⟨((encR p).map UInt8.ofNat).toArray⟩
theorem zm6(p:Nat)(E:p<2^40):zan Tryz.prog 258 [int p] (.str (encS p)):=by
 refine zab mixed Tryz.func258 rfl c_258 ?_
 have t1:(p:Int).tmod 64=((p%64:Nat):Int):=rfl
 have t2:((p:Int)/64).tmod 64=((p/64%64:Nat):Int):=by rw[show(p:Int)/64=((p/64:Nat):Int) by omega];rfl
 have t3:((p:Int)/4096).tmod 64=((p/4096%64:Nat):Int):=by rw[show(p:Int)/4096=((p/4096:Nat):Int) by omega];rfl
 by_cases K:p<128
 .have H:(p:Int)<128:=by omega
  simp+decide[Tryz.f258,int,H,t1,t2,t3,zbs,bytesOf];rw[zhd (m:=p) (by omega)]
  simp[encS,encR,K]
 have H:¬(p:Int)<128:=by omega
 by_cases h2:p<2048
 .have G:(p:Int)<2048:=by omega
  simp+decide[Tryz.f258,int,H,G,t1,t2,t3,zbs,bytesOf,I64];rw[zhd (m:=192+p/64) (by omega),zhd (m:=128+p%64) (by omega)]
  refine⟨by omega,by omega,by omega,?_⟩
  simp[encS,encR,K,h2]
 have G:¬(p:Int)<2048:=by omega
 by_cases J:p<65536
 .have F:(p:Int)<65536:=by omega
  simp+decide[Tryz.f258,int,H,G,F,t1,t2,t3,zbs,bytesOf,I64];rw[zhd (m:=224+p/4096) (by omega),zhd (m:=128+p/64%64) (by omega),zhd (m:=128+p%64) (by omega)]
  refine⟨by omega,by omega,by omega,by omega,by omega,?_⟩
  simp[encS,encR,K,h2,J]
 have F:¬(p:Int)<65536:=by omega
 simp+decide[Tryz.f258,int,H,G,F,t1,t2,t3,zbs,bytesOf,I64]
 rw[zhd (m:=240+p/262144) (by omega),zhd (m:=128+p/4096%64) (by omega),zhd (m:=128+p/64%64) (by omega),zhd (m:=128+p%64) (by omega)]
 refine⟨by omega,by omega,by omega,by omega,by omega,by omega,by omega,?_⟩
 simp[encS,encR,K,h2,J]
theorem bytes_inj{a b:ByteArray}(h:a.toList=b.toList):a=b:=by
 rw[<-MapKept.bytes_beq,beq_toListBytes,beq_iff_eq];exact h
def accR(s:ByteArray)(at_ p0:Nat):Nat->Nat
 |0=>p0
 |k+1=>accR s at_ p0 k*64+zal s (at_+(k+1))%64
theorem zge{s:ByteArray}{at_ p0:Nat}(h:p0<256):∀ k,accR s at_ p0 k<256*64^k
 |0=>by simpa[accR] using h
 |k+1=>by
  have:=zge (s:=s) (at_:=at_) h k
  simp only[accR,Nat.pow_succ];omega
def bytes4(s:ByteArray)(at_:Nat):List Nat:=[zal s at_,zal s (at_+1),zal s (at_+2),zal s (at_+3)]
theorem zse(s:ByteArray)(at_ p0:Nat):∀ n,n<=4->zyo p0 ([zal s (at_+1),zal s (at_+2),zal s (at_+3)].take (n-1))=accR s at_ p0 (n-1)
 |0,_=>rfl
 |1,_=>rfl
 |2,_=>rfl
 |3,_=>rfl
 |4,_=>rfl
theorem zen:∀ {a b:List UInt8},a.map UInt8.toNat=b.map UInt8.toNat->a=b
 | [],[],_=>rfl
 | [],_::_,h=>by simp at h
 |_::_,[],h=>by simp at h
 |x::a,y::b,h=>by
  simp only[List.map_cons,List.cons.injEq] at h;rw[UInt8.toNat_inj.1 h.1,zen h.2]
theorem zsf{s:ByteArray}{at_ n:Nat}(F:n<=4)(h:at_+n<=s.size):(s.extract at_ (at_+n)).data.toList.map UInt8.toNat=(bytes4 s at_).take n:=by
 have G:s.size=s.data.toList.length:=by rw[Array.length_toList];rfl
 have E:(s.extract at_ (at_+n)).data.toList=(s.data.toList.drop at_).take n:=by
  simp only[ByteArray.data_extract,Array.toList_extract,List.extract_eq_take_drop];congr 1;omega
 rw[E]
 apply List.ext_getElem?
 intro j
 rw[List.getElem?_map,List.getElem?_take,List.getElem?_take]
 by_cases K:j<n
 .rw[if_pos K,if_pos K,List.getElem?_drop,List.getElem?_eq_getElem (by omega)]
  have J:∀ k,(L:k<s.data.toList.length)->(s.data.toList[k]'L).toNat=zal s k:=λk L=>by simp[zal,List.getD,List.getElem?_eq_getElem L]
  have H:j=0\/j=1\/j=2\/j=3:=by omega
  rw[Option.map_some,J];rcases H with rfl | rfl | rfl | rfl <;> rfl
 .rw[if_neg K,if_neg K];rfl
theorem zox(p:Nat):(encS p).data.toList.map UInt8.toNat=(encR p).map (· % 256):=by
 simp only[encS,List.map_map]
 apply List.map_congr_left
 intro b _
 simp
theorem zm7{s:ByteArray}{at_ n p:Nat}(H:n<=4)(h:at_+n<=s.size):encS p=s.extract at_ (at_+n)↔(encR p).map (· % 256)=(bytes4 s at_).take n:=by
 rw[<-zox,<-zsf H h]
 constructor
 .intro e;rw[e]
 .intro e
  have:=zen e
  have e2:(encS p).data=(s.extract at_ (at_+n)).data:=Array.ext' this
  cases G:encS p;cases F:s.extract at_ (at_+n)
  rw[G,F] at e2;simp only at e2;rw[e2]
def zfk(s:ByteArray)(at_:Nat):Option (Nat×Nat):=zny (s.size-at_) (zal s at_) (zal s (at_+1)) (zal s (at_+2)) (zal s (at_+3))
def zbh:Option (Nat×Nat)->D
 |none=>.tup [int (-1),int 0]
 |some r=>.tup [int r.1,int r.2]
theorem zeo{s:ByteArray}{at_ p0 n:Nat}(H:zdo (zal s at_)=(p0,n))(G:n<=4):zfk s at_=if s.size-at_<n then none else if zck (accR s at_ p0 (n-1))/\(encR (accR s at_ p0 (n-1))).map (· % 256)=(bytes4 s at_).take n then some (accR s at_ p0 (n-1),n) else none:=by
 unfold zfk zny
 rw[H]
 simp only
 rw[zse s at_ p0 n G]
 rfl
theorem zxg(s:ByteArray)(at_:Nat)(E:at_<s.size)(hs:s.size<=1000000):zan Tryz.prog 226 [.str s,int at_] (zbh (zfk s at_)):=by
 refine zab mixed Tryz.func226 rfl c_226 ?_
 have Q:zal s at_<256:=UInt8.toNat_lt _
 have e0:=zb1 s at_
 have w0:=zel s at_
 by_cases c4:240<=zal s at_
 .have q4:(240:Int)<=zal s at_:=by omega
  have T:zdo (zal s at_)=(zal s at_-240,4):=by simp[zdo,c4]
  rw[zeo T (by omega)]
  by_cases F:s.size-at_<4
  .have g1:(s.size:Int)<(at_:Int)+4:=by omega
   rw[if_pos F];have ep0:(zal s at_:Int)-240=((zal s at_-240:Nat):Int):=by omega
   simp+decide[Tryz.f226,int,E,e0,w0,q4,g1,I64,zbs,zbh,ep0];omega
  have g1:¬(s.size:Int)<(at_:Int)+4:=by omega
  rw[if_neg F];have K:zal s at_-240<256:=by omega
  have ep0:(zal s at_:Int)-240=((zal s at_-240:Nat):Int):=by omega
  simp+decide[Tryz.f226,int,E,e0,w0,q4,g1,I64,zbs,ep0];refine⟨by omega,⟨by omega,by omega⟩,?_⟩
  refine zae mixed (λj:Nat=>{n:=65,next:=0,slots:=[(0,.d (.str s)),(1,.d (int at_)),(6,.d (int (accR s at_ (zal s at_-240) j))),(7,.d (int 4)),(8,.d (int (j+1)))],own:=[]})
   (λj=>j+1<=4) (λj=>4-j) 0 (by simp) (by simp+decide[int,accR]) ?_
  intro j V;have J:=zge (s:=s) (at_:=at_) K j;have G:accR s at_ (zal s at_-240) j<2^30:=Nat.lt_of_lt_of_le J (Nat.le_trans (Nat.mul_le_mul_left _ (Nat.pow_le_pow_right (by omega) (show j<=3 by omega))) (by decide))
  by_cases O:j+1<4
  .have k1:(j:Int)+1<4:=by omega
   have e1:byteAt s ((at_:Int)+((j:Int)+1))=(zal s (at_+(j+1)):Int):=zb1 s (at_+(j+1))
   have w1:=zel s (at_+(j+1));have t1:(zal s (at_+(j+1)):Int).tmod 64=((zal s (at_+(j+1))%64:Nat):Int):=rfl
   simp+decide[int,k1,e1,w1,t1,I64,zbs];exact⟨by omega,by omega,⟨by omega,by omega⟩,by omega,by omega,j+1,by omega,by omega,by simp only[accR];omega,by omega⟩
  .obtain rfl:j=3:=by omega
   simp+decide[int,I64,zbs];generalize X:accR s at_ (zal s at_-240) 3=q at G ⊢;refine zaa (by rfl) (by rfl) (zem q) (by simp) ?_
   by_cases H:zck q
   case neg=>simp+decide[H,int,zbh]
   simp+decide[H,int];refine zaa (by rfl) (by rfl) (zm6 q (by omega)) (by simp) ?_
   have z1:((at_:Int)+4).toNat=at_+4:=by omega
   have Y:=zm7 (s:=s) (at_:=at_) (n:=4) (p:=q) (by omega) (by omega)
   by_cases Z:encS q=s.extract at_ (at_+4)
   .simp+decide[H,int,z1,Z,Y.1 Z,zbh,I64]
    omega
   .have L:¬((encR q).map (· % 256)=(bytes4 s at_).take 4):=λh=>Z (Y.2 h)
    have M:¬(encS q).toList=(s.extract at_ (at_+4)).toList:=λh=>Z (bytes_inj h)
    simp+decide[H,int,z1,L,M,zbh,I64];omega
 have q4:¬(240:Int)<=zal s at_:=by omega
 by_cases c3:224<=zal s at_
 .have q3:(224:Int)<=zal s at_:=by omega
  have T:zdo (zal s at_)=(zal s at_-224,3):=by simp[zdo,c4,c3]
  rw[zeo T (by omega)]
  by_cases F:s.size-at_<3
  .have g1:(s.size:Int)<(at_:Int)+3:=by omega
   rw[if_pos F];have ep0:(zal s at_:Int)-224=((zal s at_-224:Nat):Int):=by omega
   simp+decide[Tryz.f226,int,E,e0,w0,q4,q3,g1,I64,zbs,zbh,ep0];omega
  have g1:¬(s.size:Int)<(at_:Int)+3:=by omega
  rw[if_neg F];have K:zal s at_-224<256:=by omega
  have ep0:(zal s at_:Int)-224=((zal s at_-224:Nat):Int):=by omega
  simp+decide[Tryz.f226,int,E,e0,w0,q4,q3,g1,I64,zbs,ep0];refine⟨by omega,⟨by omega,by omega⟩,?_⟩
  refine zae mixed (λj:Nat=>{n:=65,next:=0,slots:=[(0,.d (.str s)),(1,.d (int at_)),(6,.d (int (accR s at_ (zal s at_-224) j))),(7,.d (int 3)),(8,.d (int (j+1)))],own:=[]})
   (λj=>j+1<=3) (λj=>3-j) 0 (by simp) (by simp+decide[int,accR]) ?_
  intro j V;have J:=zge (s:=s) (at_:=at_) K j;have G:accR s at_ (zal s at_-224) j<2^30:=Nat.lt_of_lt_of_le J (Nat.le_trans (Nat.mul_le_mul_left _ (Nat.pow_le_pow_right (by omega) (show j<=3 by omega))) (by decide))
  by_cases O:j+1<3
  .have k1:(j:Int)+1<3:=by omega
   have e1:byteAt s ((at_:Int)+((j:Int)+1))=(zal s (at_+(j+1)):Int):=zb1 s (at_+(j+1))
   have w1:=zel s (at_+(j+1));have t1:(zal s (at_+(j+1)):Int).tmod 64=((zal s (at_+(j+1))%64:Nat):Int):=rfl
   simp+decide[int,k1,e1,w1,t1,I64,zbs];exact⟨by omega,by omega,⟨by omega,by omega⟩,by omega,by omega,j+1,by omega,by omega,by simp only[accR];omega,by omega⟩
  .obtain rfl:j=2:=by omega
   simp+decide[int,I64,zbs];generalize X:accR s at_ (zal s at_-224) 2=q at G ⊢;refine zaa (by rfl) (by rfl) (zem q) (by simp) ?_
   by_cases H:zck q
   case neg=>simp+decide[H,int,zbh]
   simp+decide[H,int];refine zaa (by rfl) (by rfl) (zm6 q (by omega)) (by simp) ?_
   have z1:((at_:Int)+3).toNat=at_+3:=by omega
   have Y:=zm7 (s:=s) (at_:=at_) (n:=3) (p:=q) (by omega) (by omega)
   by_cases Z:encS q=s.extract at_ (at_+3)
   .simp+decide[H,int,z1,Z,Y.1 Z,zbh,I64]
    omega
   .have L:¬((encR q).map (· % 256)=(bytes4 s at_).take 3):=λh=>Z (Y.2 h)
    have M:¬(encS q).toList=(s.extract at_ (at_+3)).toList:=λh=>Z (bytes_inj h)
    simp+decide[H,int,z1,L,M,zbh,I64];omega
 have q3:¬(224:Int)<=zal s at_:=by omega
 by_cases c2:192<=zal s at_
 .have q2:(192:Int)<=zal s at_:=by omega
  have T:zdo (zal s at_)=(zal s at_-192,2):=by simp[zdo,c4,c3,c2]
  rw[zeo T (by omega)]
  by_cases F:s.size-at_<2
  .have g1:(s.size:Int)<(at_:Int)+2:=by omega
   rw[if_pos F];have ep0:(zal s at_:Int)-192=((zal s at_-192:Nat):Int):=by omega
   simp+decide[Tryz.f226,int,E,e0,w0,q4,q3,q2,g1,I64,zbs,zbh,ep0];omega
  have g1:¬(s.size:Int)<(at_:Int)+2:=by omega
  rw[if_neg F];have K:zal s at_-192<256:=by omega
  have ep0:(zal s at_:Int)-192=((zal s at_-192:Nat):Int):=by omega
  simp+decide[Tryz.f226,int,E,e0,w0,q4,q3,q2,g1,I64,zbs,ep0];refine⟨by omega,⟨by omega,by omega⟩,?_⟩
  refine zae mixed (λj:Nat=>{n:=65,next:=0,slots:=[(0,.d (.str s)),(1,.d (int at_)),(6,.d (int (accR s at_ (zal s at_-192) j))),(7,.d (int 2)),(8,.d (int (j+1)))],own:=[]})
   (λj=>j+1<=2) (λj=>2-j) 0 (by simp) (by simp+decide[int,accR]) ?_
  intro j V;have J:=zge (s:=s) (at_:=at_) K j;have G:accR s at_ (zal s at_-192) j<2^30:=Nat.lt_of_lt_of_le J (Nat.le_trans (Nat.mul_le_mul_left _ (Nat.pow_le_pow_right (by omega) (show j<=3 by omega))) (by decide))
  by_cases O:j+1<2
  .have k1:(j:Int)+1<2:=by omega
   have e1:byteAt s ((at_:Int)+((j:Int)+1))=(zal s (at_+(j+1)):Int):=zb1 s (at_+(j+1))
   have w1:=zel s (at_+(j+1));have t1:(zal s (at_+(j+1)):Int).tmod 64=((zal s (at_+(j+1))%64:Nat):Int):=rfl
   simp+decide[int,k1,e1,w1,t1,I64,zbs];exact⟨by omega,by omega,⟨by omega,by omega⟩,by omega,by omega,j+1,by omega,by omega,by simp only[accR];omega,by omega⟩
  .obtain rfl:j=1:=by omega
   simp+decide[int,I64,zbs];generalize X:accR s at_ (zal s at_-192) 1=q at G ⊢;refine zaa (by rfl) (by rfl) (zem q) (by simp) ?_
   by_cases H:zck q
   case neg=>simp+decide[H,int,zbh]
   simp+decide[H,int];refine zaa (by rfl) (by rfl) (zm6 q (by omega)) (by simp) ?_
   have z1:((at_:Int)+2).toNat=at_+2:=by omega
   have Y:=zm7 (s:=s) (at_:=at_) (n:=2) (p:=q) (by omega) (by omega)
   by_cases Z:encS q=s.extract at_ (at_+2)
   .simp+decide[H,int,z1,Z,Y.1 Z,zbh,I64]
    omega
   .have L:¬((encR q).map (· % 256)=(bytes4 s at_).take 2):=λh=>Z (Y.2 h)
    have M:¬(encS q).toList=(s.extract at_ (at_+2)).toList:=λh=>Z (bytes_inj h)
    simp+decide[H,int,z1,L,M,zbh,I64];omega
 have q2:¬(192:Int)<=zal s at_:=by omega
 have T:zdo (zal s at_)=(zal s at_,1):=by simp[zdo,c4,c3,c2]
 rw[zeo T (by omega)]
 by_cases F:s.size-at_<1
 .omega
 have g1:¬(s.size:Int)<(at_:Int)+1:=by omega
 rw[if_neg F]
 have K:zal s at_<256:=by omega
 simp+decide[Tryz.f226,int,E,e0,w0,q4,q3,q2,g1,I64,zbs]
 refine⟨⟨by omega,by omega⟩,?_⟩
 refine zae mixed (λj:Nat=>{n:=65,next:=0,slots:=[(0,.d (.str s)),(1,.d (int at_)),(6,.d (int (accR s at_ (zal s at_) j))),(7,.d (int 1)),(8,.d (int (j+1)))],own:=[]})
  (λj=>j+1<=1) (λj=>1-j) 0 (by simp) (by simp+decide[int,accR]) ?_
 intro j V
 have J:=zge (s:=s) (at_:=at_) K j
 have G:accR s at_ (zal s at_) j<2^30:=Nat.lt_of_lt_of_le J (Nat.le_trans (Nat.mul_le_mul_left _ (Nat.pow_le_pow_right (by omega) (show j<=3 by omega))) (by decide))
 by_cases O:j+1<1
 .omega
 .obtain rfl:j=0:=by omega
  simp+decide[int,I64,zbs];generalize X:accR s at_ (zal s at_) 0=q at G ⊢;refine zaa (by rfl) (by rfl) (zem q) (by simp) ?_
  by_cases H:zck q
  case neg=>simp+decide[H,int,zbh]
  simp+decide[H,int];refine zaa (by rfl) (by rfl) (zm6 q (by omega)) (by simp) ?_
  have z1:((at_:Int)+1).toNat=at_+1:=by omega
  have Y:=zm7 (s:=s) (at_:=at_) (n:=1) (p:=q) (by omega) (by omega)
  by_cases Z:encS q=s.extract at_ (at_+1)
  .simp+decide[H,int,z1,Z,Y.1 Z,zbh,I64]
   omega
  .have L:¬((encR q).map (· % 256)=(bytes4 s at_).take 1):=λh=>Z (Y.2 h)
   have M:¬(encS q).toList=(s.extract at_ (at_+1)).toList:=λh=>Z (bytes_inj h)
   simp+decide[H,int,z1,L,M,zbh,I64];omega
end Go.V.Doc
namespace Go.V.Doc
open Go Go.Proofs Go.Lib
def zc8(s:ByteArray):Nat->Nat->Option (List Int)
 |0,_=>some []
 |n+1,pos=>if pos<s.size then (match zfk s pos with
  |none=>none
  |some r=>(zc8 s n (pos+r.2)).map ((r.1:Int) :: ·)) else some []
theorem ze5{s:ByteArray}{pos:Nat}(h:pos<s.size):match zfk s pos with
  |none=>decodeN (s.size-pos) (zal s pos) (zal s (pos+1)) (zal s (pos+2)) (zal s (pos+3))=(65533,1)
  |some r=>decodeN (s.size-pos) (zal s pos) (zal s (pos+1)) (zal s (pos+2)) (zal s (pos+3))=r/\¬(r.1=65533/\r.2=1)/\r.2<=s.size-pos/\1<=r.2:=
 znz _ _ _ _ _ (by omega) (UInt8.toNat_lt _) (UInt8.toNat_lt _) (UInt8.toNat_lt _) (UInt8.toNat_lt _)
theorem yh1{s:ByteArray}{pos:Nat}(h:pos<s.size):validD (s.data.toList.drop pos)=match zfk s pos with
  |none=>false
  |some r=>validD (s.data.toList.drop (pos+r.2)):=by
 have H:s.size=s.data.toList.length:=by rw[Array.length_toList];rfl
 have G:s.data.toList.drop pos≠[]:=by
  intro e;have:=congrArg List.length e;rw[List.length_drop] at this;simp at this;omega
 have F:decodeL (s.data.toList.drop pos)=decodeN (s.size-pos) (zal s pos) (zal s (pos+1)) (zal s (pos+2)) (zal s (pos+3)):=by
  rw[decodeL_N,List.length_drop,<-H,getD_dropU,getD_dropU,getD_dropU,getD_dropU];rfl
 rw[validD_step _ G,F]
 have E:=ze5 h
 cases K:zfk s pos with
 |none=>rw[K] at E;simp only at E;rw[E];simp
 |some r=>
  rw[K] at E;simp only at E;obtain⟨J,h2,_,_⟩:=E;rw[J,if_neg h2,List.drop_drop]
def badI(p:Int):Bool:=decide (p<32) || decide (p=127)
theorem zxh(n b0 b1 b2 b3:Nat)(H:b0<256)(G:b1<256)(h2:b2<256)(F:b3<256)(E:¬((decodeN n b0 b1 b2 b3).1=65533/\(decodeN n b0 b1 b2 b3).2=1)):
  (decodeN n b0 b1 b2 b3=(b0,1))\/(128<=(decodeN n b0 b1 b2 b3).1/\128<=b0/\(1<(decodeN n b0 b1 b2 b3).2->128<=b1)/\(2<(decodeN n b0 b1 b2 b3).2->128<=b2)/\(3<(decodeN n b0 b1 b2 b3).2->128<=b3)/\(decodeN n b0 b1 b2 b3).2<=4):=by
 revert E
 unfold decodeN
 repeat' split
 all_goals intro E
 all_goals first | (left;rfl) | (exfalso;exact E ⟨rfl,rfl⟩) | (right;simp only;refine⟨by omega,by omega,λ_=>by omega,λ_=>by omega,λ_=>by omega,by omega⟩)
theorem yh2{s:ByteArray}{pos:Nat}(h:pos<s.size){r:Nat×Nat}(H:zfk s pos=some r):
  badI (r.1:Int)=true↔∃ j,pos<=j/\j<pos+r.2/\badByte (zal s j)=true:=by
 have G:=ze5 h
 rw[H] at G
 simp only at G
 obtain⟨F,h2,E,K⟩:=G
 have J:=zxh (s.size-pos) (zal s pos) (zal s (pos+1)) (zal s (pos+2)) (zal s (pos+3)) (UInt8.toNat_lt _) (UInt8.toNat_lt _) (UInt8.toNat_lt _) (UInt8.toNat_lt _) (by rw[F];exact h2)
 rw[F] at J
 rcases J with J | ⟨g1,g2,g3,g4,g5,g6⟩
 .rw[J]
  simp only[badI,badByte,Bool.or_eq_true,decide_eq_true_eq];constructor
  .intro hb;exact⟨pos,by omega,by omega,by omega⟩
  .rintro⟨j,a,b,c⟩
   obtain rfl:j=pos:=by omega
   omega
 .simp only[badI,badByte,Bool.or_eq_true,decide_eq_true_eq]
  constructor
  .intro hb;omega
  .rintro⟨j,a,b,c⟩
   exfalso
   have L:j=pos\/j=pos+1\/j=pos+2\/j=pos+3:=by omega
   rcases L with rfl | rfl | rfl | rfl
   .omega
   .have:=g3 (by omega);omega
   .have:=g4 (by omega);omega
   .have:=g5 (by omega);omega
theorem zzs(s:ByteArray):∀ (m pos:Nat),s.size<=pos+m->pos<=s.size->validD (s.data.toList.drop pos)=(zc8 s m pos).isSome /\
  ∀ l,zc8 s m pos=some l->(l.any badI=true↔∃ j,pos<=j/\j<s.size/\badByte (zal s j)=true)
 |0,pos,F,hp=>by
  have H:s.size=s.data.toList.length:=by rw[Array.length_toList];rfl
  rw[List.drop_eq_nil_of_le (by omega),validD_nil]
  refine⟨rfl,λl E=>?_⟩
  simp only[zc8,Option.some.injEq] at E;subst E;simp only[List.any_nil,Bool.false_eq_true,false_iff];rintro⟨j,_,_,_⟩;omega
 |m+1,pos,F,hp=>by
  have H:s.size=s.data.toList.length:=by rw[Array.length_toList];rfl
  by_cases h:pos<s.size
  .rw[yh1 h]
   simp only[zc8,if_pos h];have K:=ze5 h;cases J:zfk s pos with
   |none=>exact⟨rfl,λl E=>by cases E⟩
   |some r=>
    rw[J] at K;simp only at K
    obtain⟨i1,i2⟩:=zzs s m (pos+r.2) (by omega) (by omega)
    simp only
    refine⟨by rw[i1];cases zc8 s m (pos+r.2) <;> rfl,λl E=>?_⟩
    rw[Option.map_eq_some_iff] at E;obtain⟨l',G,rfl⟩:=E;rw[List.any_cons,Bool.or_eq_true,i2 l' G,yh2 h J];constructor
    .rintro(⟨j,a,b,c⟩ | ⟨j,a,b,c⟩)
     .exact⟨j,by omega,by omega,c⟩
     .exact⟨j,by omega,b,c⟩
    .rintro⟨j,a,b,c⟩
     rcases Nat.lt_or_ge j (pos+r.2) with L | L
     .exact .inl ⟨j,a,L,c⟩
     .exact .inr ⟨j,L,b,c⟩
  .rw[List.drop_eq_nil_of_le (by omega),validD_nil]
   simp only[zc8,if_neg h];refine⟨rfl,λl E=>?_⟩
   simp only[Option.some.injEq] at E;subst E;simp only[List.any_nil,Bool.false_eq_true,false_iff];rintro⟨j,_,_,_⟩;omega
theorem yh3(s:ByteArray):textE s=if 200<s.size then 5 else match zc8 s s.size 0 with
  |none=>3
  |some l=>if l.any badI=true then 3 else 0:=by
 unfold textE
 split
 .rfl
 .obtain⟨H,h2⟩:=zzs s s.size 0 (by omega) (by omega)
  rw[List.drop_zero] at H;have G:ykp s=(zc8 s s.size 0).isSome:=H
  rw[G];cases F:zc8 s s.size 0 with
  |none=>rfl
  |some l=>
   simp only[Option.isSome_some,if_true];have:=h2 l F
   have E:z3n s=true↔l.any badI=true:=by
    rw[this];unfold z3n;rw[List.any_eq_true];constructor
    .rintro⟨j,K,E⟩;exact⟨j,by omega,by simpa using K,E⟩
    .rintro⟨j,_,K,E⟩;exact⟨j,by simpa using K,E⟩
   by_cases h:l.any badI=true
   .rw[if_pos h,if_pos (E.2 h)]
   .rw[if_neg h,if_neg (λJ=>h (E.1 J))]
end Go.V.Doc
namespace Go.V
open Go Go.Proofs
def scD(P:Program)(f:Nat):Bool:=match P.funcs[f]? with
 |some fn=>match fn.resultTypes.toList with
  | [T]=>(match TI.of P T with
   |some ⟨.int _,_,_,_,_⟩=>true
   |some ⟨.bool,_,_,_,_⟩=>true
   |some ⟨.str,_,_,_,_⟩=>true
   |_=>false)
  |_=>false
 |none=>false
def fnD(P:Program)(f:Nat):Option (Nat×Code×List ResultVar):=match P.funcs[f]? with
 |some fn=>match fn.body with
  |some c=>some (fn.ntmps,c,fn.results.toList)
  |none=>none
 |none=>none
def mkG(P:Program):XG:=⟨λt=>TI.of P t,λt=>zfit P t,λt=>eqKinds P t,fnD P,scD P,λ_=>none,λ_=>none,λ_=>false⟩
def ycz(P:Program):Bool:=(List.range P.funcs.size).all λf=>match P.funcs[f]? with
 | some fn => fn.name != "runtime.NumGoroutine"
 |none=>true
theorem zxi{P:Program}(h:ycz P=true):XGood P (mkG P):=by
 refine⟨λh=>h,λh=>h,λh=>h,?_,λh=>(by cases h),λh=>(by cases h)⟩
 intro f n c rs F
 have F:fnD P f=some (n,c,rs):=F
 unfold fnD at F
 split at F
 .rename_i fn H
  split at F
  .rename_i c' E
   cases F;refine⟨?_,fn,H,E,rfl,rfl⟩
   unfold ycz at h;have G:f<P.funcs.size:=by
    obtain⟨K,_⟩:=Array.getElem?_eq_some_iff.1 H;exact K
   have:=(List.all_eq_true.1 h) f (List.mem_range.2 G)
   rw[H] at this;unfold callable;rw[H];simp only at this ⊢
   rw[this,E];rfl
  .cases F
 .cases F
theorem z3q:ycz Tryz.prog=true:=by kernel_rfl
theorem zmb:Tryz.prog.follows .mixedOrders=true:=by kernel_rfl
def isT(r:Option XR):Bool:=match r with
 |some ⟨.d (.bool true),_,_,_⟩=>true
 |_=>false
end Go.V
namespace Go.V.Doc
open Go Go.Proofs Go.Sort Go.RowKit
def ltN:Nt->Nt->Bool:=ltOf cmpN
theorem zzt:∀ args w,(callFunc 113 args).run Tryz.prog w = .ok (.enter 113 args) w:=enters_of Tryz.func113 (by kernel_rfl) rfl
theorem yc0:∀ w,(isAgg 72).run Tryz.prog w = .ok true w:=λw=>by kernel_rfl
theorem z3r:∀ w,(Go.sizeOf 72).run Tryz.prog w = .ok 7 w:=λw=>by kernel_rfl
def z3s:Nat->Nat->Array Nt->Array Nt
 |0,_,d=>d
 |k+1,i,d=>z3s k (i+1) (insInner ltN 0 i d)
theorem zm8(b:Nat):∀ (k i:Nat) (d:Array Nt),k=b-i->insOuter ltN 0 b i d=z3s k i d
 |0,i,d,h=>by unfold insOuter;rw[if_neg (by omega)];rfl
 |k+1,i,d,h=>by unfold insOuter;rw[if_pos (by omega),zm8 b k (i+1) _ (by omega)];rfl
def zgz(l:List Nt):List Nt:=(z3s (l.length-1) 1 l.toArray).toList
theorem z7k(l:List Nt):(Sort.insertionSort ltN l.toArray 0 l.length)=(zgz l).toArray:=by
 unfold Sort.insertionSort zgz
 rw[zm8 l.length (l.length-1) (0+1) _ (by omega)]
theorem yc1(T:Nat)(l:List Nt)(F:l≠[])(K:l.length<4611686018427387904)(hs:(zgz l).length=l.length):
  zbl Tryz.prog 172 [.ar 0,.d (int 0),.d (int l.length),.fn 113 []] [(0,.arr T 7 (l.map Nt.row))] 1 (.d (.tup [])) 1 [(0,.arr T 7 ((zgz l).map Nt.row))] []:=by
 refine zit zjr c_172 F hs ?_
 intro w E β vs G H g cap J L M
 simp only[Sms,Sm,R,int] at G
 obtain⟨_,_,rfl,rfl,_,_,rfl,rfl,_,_,rfl,⟨_,rfl,rfl⟩,rfl⟩:=G
 have:=AnyQ.insertionSortCmpFunc Tryz.yfs 7 yc0 z3r Nt.enc zjr.len zjr.one cmpN 113 #[] g 0 cap 0 l.length l.toArray w zzt
  (z90 H L) M J (Nat.zero_le _) (by simp) (by simpa using K)
 change Calls Tryz.prog 172 _ _ _ at this
 rw[show ltOf cmpN=ltN from rfl,z7k] at this
 simpa using this
theorem yc2:zbl Tryz.prog 172 [.d (.sl []),.d (int 0),.d (int 0),.fn 113 []] [] 0 (.tup []) 0 [] []:=by
 refine za6 mixed Tryz.func172 rfl c_172 (by simp[Sym.los,Sym.lo]) ?_
 simp+decide[Tryz.f172,int]
 refine⟨by unfold I64;omega,zae mixed (λ_:Unit=>{n:=53,next:=0,slots:=[(2,.d (int 0)),(8,.d (int 1))],own:=[]})
  (λ_=>True) (λ_=>0) () trivial (by simp+decide[int]) ?_⟩
 intro _ _
 simp+decide[int]
end Go.V.Doc
namespace Go.V.Doc
open Go Go.Proofs
def z3t:List D->Option Nt
 | [.int .i64 a,.int .i64 b,.int .i64 c,.int .i64 d,.int .i64 e,.int .i64 f,.str t]=>some ⟨a,b,c,d,e,f,t⟩
 |_=>none
def zjt:List (List D)->Option (List Nt)
 | []=>some []
 |r::rs=>match z3t r,zjt rs with
  |some x,some l=>some (x::l)
  |_,_=>none
theorem zxj{r:List D}{x:Nt}(h:z3t r=some x):r=x.row:=by
 unfold z3t at h
 split at h
 .cases h;rfl
 .cases h
theorem zhr:∀ {rows:List (List D)} {l:List Nt},zjt rows=some l->rows=l.map Nt.row
 | [],l,h=>by simp[zjt] at h;subst h;rfl
 |r::rs,l,h=>by
  simp only[zjt] at h;split at h
  .rename_i x l' H h2
   cases h;rw[zxj H,zhr h2];rfl
  .cases h
def zzu(args:List Sym)(own:List (Nat×Obj'))(n:Nat):Option XR:=match args,own,n with
 | [.ar 0,.d (.int .i64 a),.d (.int .i64 b),.fn g []],[(0,.arr T 7 rows)],1=>match zjt rows with
  |some l=>zau (Nat.beq g 113&&decide (a=0)&&decide (b=(l.length:Int))&&Nat.blt 0 l.length&&Nat.beq (zgz l).length l.length&&Nat.blt l.length 1000)
    (some ⟨.d (.tup []),1,[(0,.arr T 7 ((zgz l).map Nt.row))],[]⟩)
  |none=>none
 | [.d (.sl []),.d (.int .i64 a),.d (.int .i64 b),.fn g []],[],0=>zau (Nat.beq g 113&&decide (a=0)&&decide (b=0)) (some ⟨.tup [],0,[],[]⟩)
 |_,_,_=>none
theorem zoy{args:List Sym}{own:List (Nat×Obj')}{n:Nat}{r:XR}(h:zzu args own n=some r):zbl Tryz.prog 172 args own n r.s r.nx r.own r.mv:=by
 unfold zzu at h
 split at h
 .rename_i a b g T rows
  split at h
  .rename_i l hl
   rw[zaf] at h;simp only[Bool.and_eq_true,beq_iff,zbu,decide_eq_true_eq] at h;obtain⟨⟨⟨⟨⟨⟨H,h2⟩,G⟩,F⟩,E⟩,K⟩,h⟩:=h;cases h;subst H;subst h2;subst G;rw[zhr hl];exact yc1 T l (by intro e;subst e;simp at F) (by omega) E
  .cases h
 .rename_i a b g
  rw[zaf] at h;simp only[Bool.and_eq_true,beq_iff,decide_eq_true_eq] at h;obtain⟨⟨⟨H,h2⟩,G⟩,h⟩:=h;cases h;subst H;subst h2;subst G;exact yc2
 .cases h
noncomputable def mkGs:XG:={mkG Tryz.prog with kc:=λf=>match Nat.beq f 172 with
 |true=>some zzu
 |false=>none}
theorem zzv:XGood Tryz.prog mkGs:=by
 have g:=zxi z3q
 refine⟨g.ti,g.zf,g.ek,g.fn,g.kn,?_⟩
 intro f k args own n r H G _
 have H:(match Nat.beq f 172 with | true=>some zzu | false=>none)=some k:=H
 split at H
 .rename_i e
  rw[beq_iff] at e;cases H;subst e;exact zoy G
 .cases H
def ptsD:Option (List Int)->D
 |none=>.tup [.sl [],.bool false]
 |some l=>.tup [ints l,.bool true]
def ptsS(s:ByteArray)(x:List Int×Nat×Nat):St:=
 {n:=28,next:=2,slots:=[(0,.d (.str s)),(4,.ar 1),(5,.d (int x.2.1))],own:=[(1,.arr 3 1 (x.1.map λn=>[.int .i64 n]))],moved:=[1]}
theorem zsg(s:ByteArray):∀ (m pos:Nat) (l:List Int),zc8 s m pos=some l->l.length<=m
 |0,pos,l,h=>by simp[zc8] at h;subst h;simp
 |m+1,pos,l,h=>by
  simp only[zc8] at h;split at h
  .split at h
   .cases h
   .rw[Option.map_eq_some_iff] at h
    obtain⟨l',H,rfl⟩:=h;have:=zsg s m _ l' H
    simp;omega
  .cases h;simp
theorem zfl(s:ByteArray)(hs:s.size<=1000000):zan Tryz.prog 192 [.str s] (ptsD (zc8 s s.size 0)):=by
 refine zbp mixed Tryz.func192 rfl c_192 [1,2] ?_
 simp+decide[Tryz.f192]
 refine zae mixed (ptsS s) (λx=>x.2.1<=s.size/\s.size<=x.2.1+x.2.2/\x.1.length<=x.2.1/\zc8 s s.size 0=(zc8 s x.2.2 x.2.1).map (x.1 ++ ·)) (λx=>x.2.2) ([],0,s.size)
  ⟨by simp,by simp,by simp,by simp⟩ (by simp+decide[ptsS,int]) ?_
 rintro⟨acc,pos,m⟩ ⟨E,h2,K,J⟩
 simp only at E h2 K J
 by_cases G:pos<s.size
 .have H:(pos:Int)<s.size:=by omega
  obtain⟨m,rfl⟩:∃ k,m=k+1:=⟨m-1,by omega⟩
  simp only[zc8,if_pos G] at J;have L:=ze5 G;have F:=zxg s pos G hs;simp+decide[ptsS,int,H];refine zai.pure (by rfl) F (by simp) ?_
  cases M:zfk s pos with
  |none=>
   rw[M] at J;simp+decide[zbh,int,ptsD,J]
  |some r=>
   rw[M] at J L;simp only at J L
   obtain⟨_,_,g3,g4⟩:=L;have e1:¬r.2=0:=by omega
   simp+decide[zbh,int,e1,I64];refine⟨by omega,by unfold maxLen;omega,⟨by omega,by omega⟩,acc++[(r.1:Int)],pos+r.2,m,⟨by omega,by omega,by simp;omega,by rw[J];cases zc8 s m (pos+r.2) <;> simp⟩,by omega,?_⟩
   simp+decide[ptsS,int]
 .have H:¬(pos:Int)<s.size:=by omega
  have O:zc8 s m pos=some []:=by cases m <;> simp[zc8,G]
  rw[O] at J;simp+decide[ptsS,int,H,J,ptsD,ints]
theorem zvw(s:ByteArray):zan Tryz.prog 132 [.str s] (int (textE s)):=by
 refine zab mixed Tryz.func132 rfl c_132 ?_
 rw[yh3]
 by_cases K:200<s.size
 .have F:(200:Int)<s.size:=by omega
  simp+decide[Tryz.f132,F,K,int]
 have F:¬(200:Int)<s.size:=by omega
 simp+decide[Tryz.f132,F,K,int]
 refine zai.pure (by rfl) (zfl s (by omega)) (by simp) ?_
 cases J:zc8 s s.size 0 with
 |none=>simp+decide[ptsD,int]
 |some l=>
  have E:l.length<=s.size:=zsg s _ _ _ J
  simp+decide[ptsD,ints,int];refine zae mixed (λk:Nat=>{n:=34,next:=0,slots:=[(3,.d (ints l)),(5,.d (int k))],own:=[]})
   (λk=>k<=l.length/\∀ x∈l.take k,badI x=false) (λk=>l.length-k) 0 (by simp) (by simp+decide[int,ints]) ?_
  intro k ⟨L,M⟩;by_cases H:k<l.length
  .have e1:l[k]?=some l[k]:=List.getElem?_eq_getElem H
   have G:badI l[k]=true->l.any badI=true:=λO=>List.any_eq_true.2 ⟨l[k],List.getElem_mem H,O⟩
   by_cases b1:l[k]<32
   .have O:=G (by simp[badI,b1])
    simp+decide[ints,int,e1,H,b1];exact List.any_eq_true.1 O
   .by_cases b2:l[k]=127
    .have O:=G (by simp[badI,b2])
     simp+decide[ints,int,e1,H,b1,b2];exact List.any_eq_true.1 O
    .simp+decide[ints,int,e1,H,b1,b2,I64]
     refine⟨by omega,k+1,⟨H,?_⟩,by omega,by omega⟩
     rw[List.take_succ_eq_append_getElem H];intro x Q;rcases List.mem_append.1 Q with Q | Q
     .exact M x Q
     .simp at Q;rw[Q];simp[badI,b1,b2]
  .have:k=l.length:=by omega
   subst this;rw[List.take_length] at M;have O:l.any badI=false:=by rw[List.any_eq_false];intro x Q;simp[M x Q]
   simp+decide[ints,int];exact M
def zca(f t:Int):Bool:=decide (0<=f)&&decide (f<t)&&decide (t<=86400000)
def zci(d:Dc)(i:Int):Tir:=d.tiers[i.toNat]?.getD default
def zgf(d:Dc)(n p:Nt):Bool:=
 if alT d.tiers n.tier=true then zca n.fr n.tO&&(if (zci d n.tier).kind=0 then decide (0<=n.fr)&&decide (n.tO<=d.len) else decide (p.fr<=n.fr)&&decide (n.tO<=p.tO))
 else decide (n.fr=0)&&decide (n.tO=0)
def yc3(d:Dc)(n:Nt):Int:=
 if textE n.text=0 then
  (if (if (zci d n.tier).kind=0 then decide (n.par=0) else (getN d.notes n.par).2&&decide ((getN d.notes n.par).1.tier=(zci d n.tier).par))=true then
   (if zgf d n (getN d.notes n.par).1=true then (if n.rank<0\/(n.rank≠0/\(zci d n.tier).kind≠3) then 1 else 0) else 12)
  else 13)
 else textE n.text
end Go.V.Doc
namespace Go.V.Doc
open Go Go.Proofs Go.Sort Go.RowKit
theorem yc4{a b:Nt}:ltN a b=true↔a.par<b.par\/(a.par=b.par/\(a.fr<b.fr\/(a.fr=b.fr/\a.rank<b.rank))):=by
 unfold ltN ltOf cmpN
 rw[decide_eq_true_eq]
 simp only[orI,cmpI]
 repeat' split
 all_goals omega
theorem zsh{a b:Nt}:ltN a b=false↔¬(a.par<b.par\/(a.par=b.par/\(a.fr<b.fr\/(a.fr=b.fr/\a.rank<b.rank)))):=by
 rw[<-yc4,Bool.not_eq_true]
theorem swoN:SWO ltN where
 irrefl:=λx=>by rw[zsh];omega
 trans:=λx y z H h2=>by rw[yc4] at *;omega
 ntrans:=λx y z H h2=>by rw[zsh] at *;omega
def zfm(l:List Nt):List Nt:=(pdq ltN l.toArray 0 l.length (Lib.bitLen l.length) true true).toList
theorem zoz(l:List Nt):PermIn 0 l.length l.toArray (pdq ltN l.toArray 0 l.length (Lib.bitLen l.length) true true)/\SortedIn ltN 0 l.length (pdq ltN l.toArray 0 l.length (Lib.bitLen l.length) true true):=
 pdq_sorts ltN swoN l.toArray 0 l.length (Lib.bitLen l.length) true true (Nat.zero_le _) (by simp) (Or.inl rfl)
theorem zju(l:List Nt):(zfm l).length=l.length:=by
 have:=(zoz l).1.1
 unfold zfm
 rw[Array.length_toList,this];simp
theorem z94(l:List Nt):(zfm l).Perm l:=by
 obtain⟨H,_,G⟩:=(zoz l).1
 unfold zfm
 generalize pdq ltN l.toArray 0 l.length (Lib.bitLen l.length) true true=A at H G
 have e1:A.extract 0 l.length=A:=by rw[show l.length=A.size by rw[H];simp];simp
 have e2:l.toArray.extract 0 l.length=l.toArray:=by rw[show l.length=l.toArray.size by simp];simp
 rw[e1,e2] at G
 simpa using G
theorem zzw(l:List Nt):(zfm l).Pairwise λa b=>ltN b a=false:=by
 have hs:=(zoz l).2
 have G:=zju l
 unfold zfm at G ⊢
 generalize pdq ltN l.toArray 0 l.length (Lib.bitLen l.length) true true=A at hs G
 rw[List.pairwise_iff_getElem]
 intro i j hi F H
 rw[Array.length_toList] at G
 have:=hs i j (Nat.zero_le _) H (by rw[Array.length_toList] at F;omega)
 rw[Array.length_toList] at hi F
 simpa[getElem!_pos,hi,F] using this
abbrev z3u:List (Nat×Obj'):=[(0,.arr 72 7 [])]
theorem ylj:zbl Tryz.prog 172 [.ar 0,.d (int 0),.d (int 0),.fn 113 []] z3u 1 (.tup []) 1 z3u []:=by
 refine za6 mixed Tryz.func172 rfl c_172 (by simp[Sym.los,Sym.lo]) ?_
 simp+decide[Tryz.f172,int]
 refine⟨by unfold I64;omega,zae mixed (λ_:Unit=>{n:=53,next:=1,slots:=[(2,.d (int 0)),(8,.d (int 1))],own:=z3u,base:=1})
  (λ_=>True) (λ_=>0) () trivial (by simp+decide[int]) ?_⟩
 intro _ _
 simp+decide[int]
theorem zbl.unit{P:Program}{f:Nat}{args:List Sym}{own:List (Nat×Obj')}{n nx:Nat}{own':List (Nat×Obj')}{mv:List Nat}(h:zbl P f args own n (.tup []) nx own' mv):zbl P f args own n (.d (.tup [])) nx own' mv:=by
 refine⟨h.1,λX w0 β w vs hβ H hs=>(h.2 X w0 β w vs hβ H hs).mono λe w' G=>?_⟩
 obtain⟨β',v,F,h2,E,K⟩:=G
 refine⟨β',v,F,h2,by simp[Sym.lo],?_⟩
 simp only[Sm,Sms] at K
 obtain⟨vs',rfl,rfl⟩:=K
 simp[Sm,R,za9]
end Go.V.Doc
namespace Go.V.Doc
open Go Go.Proofs
def ofT(l:List Nt)(t:Int):List Nt:=l.filter λn=>decide (n.tier=t)
def zb6(s:List Nt)(i:Nat):Bool:=decide (i=0) || !decide ((s[i-1]?.getD default).par=(s[i]?.getD default).par)
def lastB(s:List Nt)(i:Nat):Bool:=decide (i+1=s.length) || !decide ((s[i+1]?.getD default).par=(s[i]?.getD default).par)
def zsi(notes:List Nt)(kind:Int)(s:List Nt):Nat->Nat->Int->Int
 |0,_,why=>why
 |m+1,i,why=>if i<s.length then
   (let n:=s[i]?.getD default
    let pv:=s[i-1]?.getD default
    let p:=(getN notes n.par).1
    if kind=0\/kind=1\/kind=2 then
     (if zb6 s i=false/\n.fr<pv.tO then 15
     else zsi notes kind s m (i+1) (if kind=1/\((zb6 s i=true/\n.fr≠p.fr)\/(zb6 s i=false/\pv.tO≠n.fr)\/(lastB s i=true/\n.tO≠p.tO)) then 16 else why))
    else if kind=3 then zsi notes kind s m (i+1) (if (zb6 s i=true/\n.rank≠0)\/(zb6 s i=false/\n.rank≠IntKind.i64.wrap (pv.rank+1)) then 10 else why)
    else if kind=4 then zsi notes kind s m (i+1) (if zb6 s i=false then 8 else why)
    else zsi notes kind s m (i+1) why)
  else why
def yc5(d:Dc)(t:Int):Int:=zsi d.notes (zci d t).kind (zfm (ofT d.notes t)) (ofT d.notes t).length 0 0
def zdd(d:Dc):Nat->Nat->Int
 |0,_=>0
 |m+1,i=>if i<d.notes.length then
   (let n:=d.notes[i]?.getD default
    if n.id<1\/1099511627776<n.id then 2 else if i≠0/\n.id<=(d.notes[i-1]?.getD default).id then 10
    else if n.tier<0\/(d.tiers.length:Int)<=n.tier then 2 else if yc3 d n=0 then zdd d m (i+1) else yc3 d n)
  else 0
def zxk(d:Dc):Nat->Nat->Int
 |0,_=>0
 |m+1,i=>if i<d.tiers.length then (if yc5 d i=0 then zxk d m (i+1) else yc5 d i) else 0
def yc6(d:Dc):Int:=
 if zhq d.tiers≠0 then zhq d.tiers else if d.len<0\/86400000<d.len then 12 else if 300<d.notes.length then 11
 else if zdd d d.notes.length 0≠0 then zdd d d.notes.length 0 else zxk d d.tiers.length 0
theorem zd3(k:Int):zan Tryz.prog 135 [int k] (.bool (alK k)):=by
 refine zab mixed Tryz.func135 rfl c_135 ?_
 by_cases H:k=0
 .subst H;simp+decide[Tryz.f135,int,alK]
 by_cases G:k=1
 .subst G;simp+decide[Tryz.f135,int,alK]
 by_cases h2:k=2
 .subst h2;simp+decide[Tryz.f135,int,alK]
 simp+decide[Tryz.f135,int,alK,H,G,h2]
theorem zbc(f t:Int):zan Tryz.prog 193 [.agg [int f,int t]] (.bool (zca f t)):=by
 refine zab mixed Tryz.func193 rfl c_193 ?_
 by_cases H:0<=f
 case neg=>simp+decide[Tryz.f193,int,zca,H]
 by_cases h2:f<t
 case neg=>simp+decide[Tryz.f193,int,zca,H,h2]
 simp+decide[Tryz.f193,int,zca,H,h2]
def zqd(d:Dc)(n:Nt):Int:=
 if (if (zci d n.tier).kind=0 then decide (n.par=0) else (getN d.notes n.par).2&&decide ((getN d.notes n.par).1.tier=(zci d n.tier).par))=true then
  (if zgf d n (getN d.notes n.par).1=true then (if n.rank<0\/(n.rank≠0/\(zci d n.tier).kind≠3) then 1 else 0) else 12)
 else 13
theorem zmc(d:Dc)(n:Nt):yc3 d n=if textE n.text=0 then zqd d n else textE n.text:=rfl
theorem yc7(d:Dc)(n:Nt)(E:d.tiers.length<2^62)(K:d.notes.length<2^62)(J:0<=n.tier)(L:n.tier<d.tiers.length):
  zan Tryz.prog 133 [docD d,.agg n.row] (int (zqd d n)):=by
 refine zab mixed Tryz.func133 rfl c_133 ?_
 obtain⟨ni,nt,np,nf,nto,nr,nx⟩:=n
 simp only at J L
 obtain⟨k,rfl⟩:∃ k:Nat,nt=k:=⟨nt.toNat,by omega⟩
 have M:k<d.tiers.length:=by omega
 obtain⟨t,ek⟩:∃ t,d.tiers[k]=t:=⟨_,rfl⟩
 have e1:d.tiers[k]?=some t:=by rw[List.getElem?_eq_getElem M,ek]
 have et:zci d (k:Int)=t:=by simp[zci,e1]
 obtain⟨tn,kd,tr,tp⟩:=t
 have F:alT d.tiers (k:Int)=alK kd:=by
  unfold alT;rw[decide_eq_true (by omega),decide_eq_true (by omega),Int.toNat_natCast,e1];rfl
 simp+decide[Tryz.f133,docD,Dc.row,Nt.row,Tir.row,int,ints,zak,zad,M,e1,ek]
 refine zai.pure (by rfl) (zc0 d np K) (by simp+decide[docD,Dc.row,int,ints,zad,zak]) ?_
 have H:zqd d ⟨ni,k,np,nf,nto,nr,nx⟩=if (if kd=0 then decide (np=0) else (getN d.notes np).2&&decide ((getN d.notes np).1.tier=tp))=true then
  (if zgf d ⟨ni,k,np,nf,nto,nr,nx⟩ (getN d.notes np).1=true then (if nr<0\/(nr≠0/\kd≠3) then 1 else 0) else 12) else 13:=by
  simp only[zqd,et]
 rw[H]
 have G:∀ q:Nt,zgf d ⟨ni,k,np,nf,nto,nr,nx⟩ q=if alK kd=true then zca nf nto&&(if kd=0 then decide (0<=nf)&&decide (nto<=d.len) else decide (q.fr<=nf)&&decide (nto<=q.tO))
   else decide (nf=0)&&decide (nto=0):=by
  intro q;simp only[zgf,et,F]
 simp only[G]
 clear H G
 obtain⟨⟨p,ok⟩,eg⟩:∃ g,getN d.notes np=g:=⟨_,rfl⟩
 rw[eg]
 obtain⟨pi,pt,pp,pf,pto,prr,px⟩:=p
 simp only[getD']
 by_cases k0:kd=0
 .subst k0
  have ak:alK 0=true:=rfl
  by_cases p0:np=0
  case neg=>
   simp+decide[int,Nt.row,Tir.row,ak,p0];repeat first
    |(refine zai.pure (by rfl) (zd3 _) (by simp[int]) ?_;simp+decide[int,Nt.row,Tir.row,ak,p0])
    |(refine zai.pure (by rfl) (zbc _ _) (by simp[int]) ?_;simp+decide[int,Nt.row,Tir.row,ak,p0])
  subst p0;by_cases O:zca nf nto=true
  case neg=>
   simp+decide[int,Nt.row,Tir.row,ak,O];repeat first
    |(refine zai.pure (by rfl) (zd3 _) (by simp[int]) ?_;simp+decide[int,Nt.row,Tir.row,ak,O])
    |(refine zai.pure (by rfl) (zbc _ _) (by simp[int]) ?_;simp+decide[int,Nt.row,Tir.row,ak,O])
  have Q:0<=nf:=by simp only[zca,Bool.and_eq_true,decide_eq_true_eq] at O;omega
  by_cases T:nto<=d.len
  case neg=>
   simp+decide[int,Nt.row,Tir.row,ak,O,Q,T];repeat first
    |(refine zai.pure (by rfl) (zd3 _) (by simp[int]) ?_;simp+decide[int,Nt.row,Tir.row,ak,O,Q,T])
    |(refine zai.pure (by rfl) (zbc _ _) (by simp[int]) ?_;simp+decide[int,Nt.row,Tir.row,ak,O,Q,T])
  by_cases r1:nr<0
  .skip
   simp+decide[int,Nt.row,Tir.row,ak,O,Q,T,r1];repeat first
    |(refine zai.pure (by rfl) (zd3 _) (by simp[int]) ?_;simp+decide[int,Nt.row,Tir.row,ak,O,Q,T,r1])
    |(refine zai.pure (by rfl) (zbc _ _) (by simp[int]) ?_;simp+decide[int,Nt.row,Tir.row,ak,O,Q,T,r1])
  by_cases r2:nr=0
  .skip
   simp+decide[int,Nt.row,Tir.row,ak,O,Q,T,r1,r2];repeat first
    |(refine zai.pure (by rfl) (zd3 _) (by simp[int]) ?_;simp+decide[int,Nt.row,Tir.row,ak,O,Q,T,r1,r2])
    |(refine zai.pure (by rfl) (zbc _ _) (by simp[int]) ?_;simp+decide[int,Nt.row,Tir.row,ak,O,Q,T,r1,r2])
  simp+decide[int,Nt.row,Tir.row,ak,O,Q,T,r1,r2];repeat first
   |(refine zai.pure (by rfl) (zd3 _) (by simp[int]) ?_;simp+decide[int,Nt.row,Tir.row,ak,O,Q,T,r1,r2])
   |(refine zai.pure (by rfl) (zbc _ _) (by simp[int]) ?_;simp+decide[int,Nt.row,Tir.row,ak,O,Q,T,r1,r2])
 cases ok with
 |false=>
  simp+decide[int,Nt.row,Tir.row,k0];repeat first
   |(refine zai.pure (by rfl) (zd3 _) (by simp[int]) ?_;simp+decide[int,Nt.row,Tir.row,k0])
   |(refine zai.pure (by rfl) (zbc _ _) (by simp[int]) ?_;simp+decide[int,Nt.row,Tir.row,k0])
 |true=>
  by_cases pq:pt=tp
  case neg=>
   simp+decide[int,Nt.row,Tir.row,k0,pq];repeat first
    |(refine zai.pure (by rfl) (zd3 _) (by simp[int]) ?_;simp+decide[int,Nt.row,Tir.row,k0,pq])
    |(refine zai.pure (by rfl) (zbc _ _) (by simp[int]) ?_;simp+decide[int,Nt.row,Tir.row,k0,pq])
  by_cases V:alK kd=true
  .skip
   have k3:¬kd=3:=by rintro rfl;exact absurd V (by decide)
   by_cases O:zca nf nto=true
   case neg=>
    simp+decide[int,Nt.row,Tir.row,k0,pq,V,O];repeat first
     |(refine zai.pure (by rfl) (zd3 _) (by simp[int]) ?_;simp+decide[int,Nt.row,Tir.row,k0,pq,V,O])
     |(refine zai.pure (by rfl) (zbc _ _) (by simp[int]) ?_;simp+decide[int,Nt.row,Tir.row,k0,pq,V,O])
   by_cases b1:pf<=nf
   case neg=>
    simp+decide[int,Nt.row,Tir.row,k0,pq,V,O,b1];repeat first
     |(refine zai.pure (by rfl) (zd3 _) (by simp[int]) ?_;simp+decide[int,Nt.row,Tir.row,k0,pq,V,O,b1])
     |(refine zai.pure (by rfl) (zbc _ _) (by simp[int]) ?_;simp+decide[int,Nt.row,Tir.row,k0,pq,V,O,b1])
   by_cases b2:nto<=pto
   case neg=>
    simp+decide[int,Nt.row,Tir.row,k0,pq,V,O,b1,b2];repeat first
     |(refine zai.pure (by rfl) (zd3 _) (by simp[int]) ?_;simp+decide[int,Nt.row,Tir.row,k0,pq,V,O,b1,b2])
     |(refine zai.pure (by rfl) (zbc _ _) (by simp[int]) ?_;simp+decide[int,Nt.row,Tir.row,k0,pq,V,O,b1,b2])
   by_cases r1:nr<0
   .skip
    simp+decide[int,Nt.row,Tir.row,k0,pq,V,O,b1,b2,k3,r1];repeat first
     |(refine zai.pure (by rfl) (zd3 _) (by simp[int]) ?_;simp+decide[int,Nt.row,Tir.row,k0,pq,V,O,b1,b2,k3,r1])
     |(refine zai.pure (by rfl) (zbc _ _) (by simp[int]) ?_;simp+decide[int,Nt.row,Tir.row,k0,pq,V,O,b1,b2,k3,r1])
   by_cases r2:nr=0
   .skip
    simp+decide[int,Nt.row,Tir.row,k0,pq,V,O,b1,b2,k3,r1,r2];repeat first
     |(refine zai.pure (by rfl) (zd3 _) (by simp[int]) ?_;simp+decide[int,Nt.row,Tir.row,k0,pq,V,O,b1,b2,k3,r1,r2])
     |(refine zai.pure (by rfl) (zbc _ _) (by simp[int]) ?_;simp+decide[int,Nt.row,Tir.row,k0,pq,V,O,b1,b2,k3,r1,r2])
   simp+decide[int,Nt.row,Tir.row,k0,pq,V,O,b1,b2,k3,r1,r2];repeat first
    |(refine zai.pure (by rfl) (zd3 _) (by simp[int]) ?_;simp+decide[int,Nt.row,Tir.row,k0,pq,V,O,b1,b2,k3,r1,r2])
    |(refine zai.pure (by rfl) (zbc _ _) (by simp[int]) ?_;simp+decide[int,Nt.row,Tir.row,k0,pq,V,O,b1,b2,k3,r1,r2])
  by_cases z1:nf=0
  case neg=>
   simp+decide[int,Nt.row,Tir.row,k0,pq,V,z1];repeat first
    |(refine zai.pure (by rfl) (zd3 _) (by simp[int]) ?_;simp+decide[int,Nt.row,Tir.row,k0,pq,V,z1])
    |(refine zai.pure (by rfl) (zbc _ _) (by simp[int]) ?_;simp+decide[int,Nt.row,Tir.row,k0,pq,V,z1])
  by_cases z2:nto=0
  case neg=>
   simp+decide[int,Nt.row,Tir.row,k0,pq,V,z1,z2];repeat first
    |(refine zai.pure (by rfl) (zd3 _) (by simp[int]) ?_;simp+decide[int,Nt.row,Tir.row,k0,pq,V,z1,z2])
    |(refine zai.pure (by rfl) (zbc _ _) (by simp[int]) ?_;simp+decide[int,Nt.row,Tir.row,k0,pq,V,z1,z2])
  by_cases r1:nr<0
  .skip
   simp+decide[int,Nt.row,Tir.row,k0,pq,V,z1,z2,r1];repeat first
    |(refine zai.pure (by rfl) (zd3 _) (by simp[int]) ?_;simp+decide[int,Nt.row,Tir.row,k0,pq,V,z1,z2,r1])
    |(refine zai.pure (by rfl) (zbc _ _) (by simp[int]) ?_;simp+decide[int,Nt.row,Tir.row,k0,pq,V,z1,z2,r1])
  by_cases r2:nr=0
  .skip
   simp+decide[int,Nt.row,Tir.row,k0,pq,V,z1,z2,r1,r2];repeat first
    |(refine zai.pure (by rfl) (zd3 _) (by simp[int]) ?_;simp+decide[int,Nt.row,Tir.row,k0,pq,V,z1,z2,r1,r2])
    |(refine zai.pure (by rfl) (zbc _ _) (by simp[int]) ?_;simp+decide[int,Nt.row,Tir.row,k0,pq,V,z1,z2,r1,r2])
  by_cases r3:kd=3
  .skip
   subst r3;simp+decide[int,Nt.row,Tir.row,k0,pq,V,z1,z2,r1,r2];repeat first
    |(refine zai.pure (by rfl) (zd3 _) (by simp[int]) ?_;simp+decide[int,Nt.row,Tir.row,k0,pq,V,z1,z2,r1,r2])
    |(refine zai.pure (by rfl) (zbc _ _) (by simp[int]) ?_;simp+decide[int,Nt.row,Tir.row,k0,pq,V,z1,z2,r1,r2])
  simp+decide[int,Nt.row,Tir.row,k0,pq,V,z1,z2,r1,r2,r3];repeat first
   |(refine zai.pure (by rfl) (zd3 _) (by simp[int]) ?_;simp+decide[int,Nt.row,Tir.row,k0,pq,V,z1,z2,r1,r2,r3])
   |(refine zai.pure (by rfl) (zbc _ _) (by simp[int]) ?_;simp+decide[int,Nt.row,Tir.row,k0,pq,V,z1,z2,r1,r2,r3])
def zgg(d:Dc)(i:Nat):Int:=
 let n:=d.notes[i]?.getD default
 if n.id<1\/1099511627776<n.id then 2 else if i≠0/\n.id<=(d.notes[i-1]?.getD default).id then 10
 else if n.tier<0\/(d.tiers.length:Int)<=n.tier then 2 else yc3 d n
theorem zo0(d:Dc):∀ (m i:Nat),zdd d (m+1) i=if i<d.notes.length then (if zgg d i=0 then zdd d m (i+1) else zgg d i) else 0:=by
 intro m i
 simp only[zdd,zgg]
 split
 .split
  .simp
  .split
   .simp
   .split
    .simp
    .rfl
 .rfl
theorem zzx(d:Dc)(i:Nat)(hi:i<d.notes.length)(L:d.tiers.length<2^62)(M:d.notes.length<2^62)(O:∀ n∈d.notes,n.text.size<=9223372036854775807):
  zan Tryz.prog 80 [docD d,int i] (int (zgg d i)):=by
 refine zab mixed Tryz.func80 rfl c_80 ?_
 have H:(i:Int)<d.notes.length:=by omega
 obtain⟨n,en'⟩:∃ n,d.notes[i]=n:=⟨_,rfl⟩
 have en:d.notes[i]?=some n:=by rw[List.getElem?_eq_getElem hi,en']
 have K:=O n (by rw[<-en'];exact List.getElem_mem hi)
 have E:=λa b=>yc7 d n L M a b
 have Q:zgg d i=if n.id<1\/1099511627776<n.id then 2 else if i≠0/\n.id<=(d.notes[i-1]?.getD default).id then 10
  else if n.tier<0\/(d.tiers.length:Int)<=n.tier then 2 else if textE n.text=0 then zqd d n else textE n.text:=by
  simp only[zgg,en,Option.getD_some,zmc]
 rw[Q]
 clear Q
 have B:True:=trivial
 by_cases a1:n.id<1
 .simp+decide[Tryz.f80,docD,Dc.row,zak,Nt.row,int,ints,hi,H,en,en',a1]
 by_cases a2:1099511627776<n.id
 .simp+decide[Tryz.f80,docD,Dc.row,zak,Nt.row,int,ints,hi,H,en,en',a1,a2]
 have fin:∀ (J:¬(i≠0/\n.id<=(d.notes[i-1]?.getD default).id)),True:=λ_=>trivial
 cases i with
 |zero=>
  by_cases b1:n.tier<0
  .simp+decide[Tryz.f80,docD,Dc.row,zak,Nt.row,int,ints,hi,H,en,en',a1,a2,b1]
  by_cases b2:(d.tiers.length:Int)<=n.tier
  .simp+decide[Tryz.f80,docD,Dc.row,zak,Nt.row,int,ints,zad,hi,H,en,en',a1,a2,b1,b2]
  simp+decide[Tryz.f80,docD,Dc.row,zak,Nt.row,int,ints,zad,hi,H,en,en',a1,a2,b1,b2];refine zai.pure (by rfl) (zvw n.text) (by simp[int]) ?_
  by_cases T:textE n.text=0
  case neg=>simp+decide[int,T]
  simp+decide[int,T];refine zai.pure (by rfl) (E (by omega) (by omega)) (by simp+decide[docD,Dc.row,int,ints,zak,zad,Nt.row]) ?_
  simp+decide[int]
 |succ j=>
  have F:j<d.notes.length:=by omega
  have G:(j:Int)<d.notes.length:=by omega
  obtain⟨pv,ep'⟩:∃ pv,d.notes[j]=pv:=⟨_,rfl⟩;have ep:d.notes[j]?=some pv:=by rw[List.getElem?_eq_getElem F,ep']
  have j0:(0:Int)<(j:Int)+1:=by omega
  have j1:(j:Int)+1-1=j:=by omega
  have jz:¬(j:Int)+1=0:=by omega
  have V:(j:Int)+1<d.notes.length:=by omega
  have tn1:((j:Int)+1).toNat=j+1:=by omega
  have g0:(0:Int)<=(j:Int)+1:=by omega
  have g1 : -9223372036854775808<=(j:Int):=by omega
  have g2:(j:Int)<=9223372036854775807:=by omega
  by_cases c1:n.id<=pv.id
  .simp+decide[Tryz.f80,docD,Dc.row,zak,Nt.row,int,ints,hi,H,en,en',a1,a2,F,G,ep,ep',j0,j1,V,tn1,c1,I64,g0,g1,g2]
  by_cases b1:n.tier<0
  .simp+decide[Tryz.f80,docD,Dc.row,zak,Nt.row,int,ints,hi,H,en,en',a1,a2,F,G,ep,ep',j0,j1,V,tn1,c1,I64,g0,g1,g2,b1]
  by_cases b2:(d.tiers.length:Int)<=n.tier
  .simp+decide[Tryz.f80,docD,Dc.row,zak,Nt.row,int,ints,zad,hi,H,en,en',a1,a2,F,G,ep,ep',j0,j1,V,tn1,c1,I64,g0,g1,g2,b1,b2]
  simp+decide[Tryz.f80,docD,Dc.row,zak,Nt.row,int,ints,zad,hi,H,en,en',a1,a2,F,G,ep,ep',j0,j1,V,tn1,c1,I64,g0,g1,g2,b1,b2];refine zai.pure (by rfl) (zvw n.text) (by simp[int]) ?_
  by_cases T:textE n.text=0
  case neg=>simp+decide[int,T]
  simp+decide[int,T];refine zai.pure (by rfl) (E (by omega) (by omega)) (by simp+decide[docD,Dc.row,int,ints,zak,zad,Nt.row]) ?_
  simp+decide[int]
structure Sp where
 (fr:Int)
 (tO : Int)
 deriving Inhabited,DecidableEq
def Sp.row(s:Sp):List D:=[int s.fr,int s.tO]
def zbw(l:List Sp):D:=.sl (l.map Sp.row)
abbrev Sp.rt(s:Sp):Bool:=zca s.fr s.tO
def cut1(x s:Sp):List Sp:=(if zca x.fr (min x.tO s.fr)=true then [⟨x.fr,min x.tO s.fr⟩] else [])++(if zca (max x.fr s.tO) x.tO=true then [⟨max x.fr s.tO,x.tO⟩] else [])
def zbx(l:List Sp)(s:Sp):List Sp:=l.flatMap λx=>cut1 x s
def zd4(a b:List Sp):List Sp:=b.foldl (λout y=>if y.rt=true then zbx out y else out) a
def ze6(l:List Sp)(s:Sp):Bool:=s.rt&&(zd4 [s] l).isEmpty
theorem yh4(x s:Sp):(cut1 x s).length<=2:=by
 unfold cut1;split <;> split <;> simp
theorem z3v(l:List Sp)(s:Sp):(zbx l s).length<=2*l.length:=by
 unfold zbx
 induction l with
 |nil=>simp
 |cons x r ih=>
  have:=yh4 x s
  rw[List.flatMap_cons,List.length_append,List.length_cons];omega
theorem zzy{l:List Sp}{s:Sp}{k:Nat}(h:k<l.length):zbx (l.take (k+1)) s=zbx (l.take k) s++cut1 l[k] s:=by
 unfold zbx
 rw[take_snoc' h,List.flatMap_append];simp
def zhe(l:List Sp):Int:=(l.map λx=>x.tO-x.fr).sum
theorem zz0(a b:List Sp):zhe (a++b)=zhe a+zhe b:=by simp[zhe]
theorem yh5{x s:Sp}(H:x.rt=true)(hs:s.rt=true):zhe (cut1 x s)<=x.tO-x.fr:=by
 simp only[Sp.rt,zca,Bool.and_eq_true,decide_eq_true_eq] at H hs
 unfold cut1
 split <;> split <;> simp[zhe] <;> omega
theorem ylk(x s:Sp):∀ y∈cut1 x s,y.rt=true:=by
 intro y H
 unfold cut1 at H
 rcases List.mem_append.1 H with h | h
 .split at h
  .rename_i e;simp at h;subst h;exact e
  .cases h
 .split at h
  .rename_i e;simp at h;subst h;exact e
  .cases h
theorem zvx{l:List Sp}{s:Sp}:∀ y∈zbx l s,y.rt=true:=by
 intro y H
 unfold zbx at H
 obtain⟨x,_,h⟩:=List.mem_flatMap.1 H
 exact ylk x s y h
theorem zsj{s:Sp}(hs:s.rt=true):∀ {l:List Sp},(∀ x∈l,x.rt=true)->zhe (zbx l s)<=zhe l
 | [],_=>by simp[zbx,zhe]
 |x::r,h=>by
  have H:=yh5 (h x (by simp)) hs
  have h2:=zsj hs (l:=r) (λy G=>h y (by simp[G]))
  have e1:zbx (x::r) s=cut1 x s++zbx r s:=by unfold zbx;rw[List.flatMap_cons]
  have e2:zhe (x::r)=(x.tO-x.fr)+zhe r:=by simp[zhe]
  rw[e1,zz0,e2];omega
theorem yc8:∀ {l:List Sp},(∀ x∈l,x.rt=true)->(l.length:Int)<=zhe l
 | [],_=>by simp[zhe]
 |x::r,h=>by
  have H:=h x (by simp)
  simp only[Sp.rt,zca,Bool.and_eq_true,decide_eq_true_eq] at H;have h2:=yc8 (l:=r) (λy G=>h y (by simp[G]))
  have e2:zhe (x::r)=(x.tO-x.fr)+zhe r:=by simp[zhe]
  rw[e2,List.length_cons];omega
theorem zm9:∀ (b a:List Sp),(∀ x∈a,x.rt=true)->(∀ x∈zd4 a b,x.rt=true)/\zhe (zd4 a b)<=zhe a
 | [],a,h=>⟨h,Int.le_refl _⟩
 |y::r,a,h=>by
  have e:zd4 a (y::r)=zd4 (if y.rt=true then zbx a y else a) r:=rfl
  rw[e];by_cases H:y.rt=true
  .rw[if_pos H]
   have G:=zm9 r (zbx a y) zvx;have h2:=zsj H h;exact⟨G.1,by omega⟩
  .rw[if_neg H];exact zm9 r a h
theorem yc9{s:Sp}(hs:s.rt=true)(b:List Sp):(zd4 [s] b).length<=86400000:=by
 obtain⟨H,h2⟩:=zm9 b [s] (by simpa using hs)
 have G:=yc8 H
 simp only[Sp.rt,zca,Bool.and_eq_true,decide_eq_true_eq] at hs
 have F:zhe [s]=s.tO-s.fr:=by simp[zhe]
 omega
theorem z95{a b:List Sp}{k:Nat}(h:k<b.length):zd4 a (b.take (k+1))=if b[k].rt=true then zbx (zd4 a (b.take k)) b[k] else zd4 a (b.take k):=by
 unfold zd4
 rw[take_snoc' h,List.foldl_append];rfl
theorem zz1(s:Sp):zan Tryz.prog 259 [zbw [],.agg s.row] (zbw [s]):=by
 refine zbp mixed Tryz.func259 rfl c_259 [2] ?_
 simp+decide[Tryz.f259,zbw,Sp.row,int]
 refine zae mixed (λk:Nat=>{n:=69,next:=4,slots:=[(0,.d (.sl [])),(3,.bp 0 0),(5,.ar 2),(6,.ar 3),(7,.d (.int .i64 k))],own:=[(0,.box 70 [.d (int s.fr),.d (int s.tO)]),(2,.arr 70 2 []),(3,.arr 70 2 [])]})
  (λk=>k=0) (λk=>0) 0 (by simp) (by simp+decide[int]) ?_
 rintro k rfl
 simp+decide[int,maxLen]
theorem z96(l:List Sp)(s:Sp)(E:l.length<2^40):zan Tryz.prog 228 [zbw l,.agg s.row] (zbw (zbx l s)):=by
 refine zbp mixed Tryz.func228 rfl c_228 [2] ?_
 simp+decide[Tryz.f228,Sp.row,int]
 refine zae mixed (λk:Nat=>{n:=57,next:=3,slots:=[(0,.d (zbw l)),(3,.bp 0 0),(5,.ar 2),(6,.d (.int .i64 k))],own:=[(0,.box 70 [.d (int s.fr),.d (int s.tO)]),(2,.arr 70 2 ((zbx (l.take k) s).map Sp.row))],moved:=[2]})
  (λk=>k<=l.length) (λk=>l.length-k) 0 (by simp) (by simp+decide[int,zbx]) ?_
 intro k K
 by_cases H:k<l.length
 .have G:(k:Int)<l.length:=by omega
  obtain⟨x,ex'⟩:∃ x,l[k]=x:=⟨_,rfl⟩;have ex:l[k]?=some x:=by rw[List.getElem?_eq_getElem H,ex']
  have hsn:=zzy (s:=s) H;rw[ex'] at hsn;have J:=z3v (l.take k) s;have F:(l.take k).length=k:=by rw[List.length_take];omega
  rw[F] at J;generalize zbx (l.take k) s=W at J hsn ⊢;simp+decide[int,zbw,Sp.row,H,G,ex,ex'];have m1:(if s.fr<x.tO then s.fr else x.tO)=min x.tO s.fr:=by rw[Int.min_def];split <;> split <;> omega
  have m2:(if x.fr<s.tO then s.tO else x.fr)=max x.fr s.tO:=by rw[Int.max_def];split <;> split <;> omega
  refine z9j mixed (by rfl) (by rfl) ti_70 (by rfl) (by rfl) (by decide) (by rfl) (by rfl) ?_
  simp+decide[int,zbw,Sp.row,H,G,ex,ex'];refine z9j mixed (by rfl) (by rfl) ti_70 (by rfl) (by rfl) (by decide) (by rfl) (by rfl) ?_
  simp+decide[int,zbw,Sp.row,H,G,ex,ex'];rw[m1,m2];have L:cut1 x s=(if zca x.fr (min x.tO s.fr)=true then [⟨x.fr,min x.tO s.fr⟩] else [])++(if zca (max x.fr s.tO) x.tO=true then [⟨max x.fr s.tO,x.tO⟩] else []):=rfl
  generalize min x.tO s.fr=mn at L ⊢;generalize max x.fr s.tO=mx at L ⊢;refine zai.pure (by rfl) (zbc _ _) (by simp[int]) ?_
  by_cases r1:zca x.fr mn=true
  .rw[if_pos r1] at L
   simp+decide[int,zbw,Sp.row,r1];refine⟨by omega,by unfold maxLen;omega,?_⟩
   refine zai.pure (by rfl) (zbc _ _) (by simp[int]) ?_
   by_cases r2:zca mx x.tO=true
   .rw[if_pos r2] at L
    rw[L] at hsn;simp+decide[int,zbw,Sp.row,r2,I64];refine⟨by omega,by unfold maxLen;omega,by omega,k+1,H,by omega,by omega,?_⟩
    rw[hsn];simp[Sp.row,int]
   .rw[if_neg r2] at L
    rw[L] at hsn;simp+decide[int,zbw,Sp.row,r2,I64];refine⟨by omega,k+1,H,by omega,by omega,?_⟩
    rw[hsn];simp[Sp.row,int]
  .rw[if_neg r1] at L
   simp+decide[int,zbw,Sp.row,r1];refine zai.pure (by rfl) (zbc _ _) (by simp[int]) ?_
   by_cases r2:zca mx x.tO=true
   .rw[if_pos r2] at L
    rw[L] at hsn;simp+decide[int,zbw,Sp.row,r2,I64];refine⟨by omega,by unfold maxLen;omega,by omega,k+1,H,by omega,by omega,?_⟩
    rw[hsn];simp[Sp.row,int]
   .rw[if_neg r2] at L
    rw[L] at hsn;simp+decide[int,zbw,Sp.row,r2,I64];refine⟨by omega,k+1,H,by omega,by omega,?_⟩
    rw[hsn];simp
 .have:k=l.length:=by omega
  subst this;rw[List.take_length];simp+decide[int,zbw,Sp.row]
theorem yda(s:Sp)(hs:s.rt=true):zan Tryz.prog 227 [zbw [s]] (zbw [s]):=by
 refine zab mixed Tryz.func227 rfl c_227 ?_
 simp+decide[Tryz.f227,int]
 refine zae mixed (λk:Nat=>match k with
   |0=>{n:=24,next:=2,slots:=[(0,.d (zbw [s])),(3,.ar 1),(4,.d (int 0))],own:=[(1,.arr 70 2 [])]}
   |_+1=>{n:=24,next:=2,slots:=[(0,.d (zbw [s])),(3,.d (zbw [s])),(4,.d (int 1))],own:=[]})
  (λk=>k<=1) (λk=>1-k) 0 (by simp) (by simp+decide[int]) ?_
 intro k H
 cases k with
 |zero=>
  simp+decide[int,zbw,Sp.row];refine zai.pure (by rfl) (zbc _ _) (by simp[int]) ?_
  simp+decide[int,hs,Sp.row];refine zuq (by rfl) (zz1 s) (by simp) ?_
  simp+decide[int,I64];exact⟨1,by simp,by simp,by simp+decide[int,Sp.row,zbw]⟩
 |succ j=>
  simp+decide[int,zbw,Sp.row]
theorem yh6(s:Sp)(hs:s.rt=true)(b:List Sp)(E:b.length<2^62):zan Tryz.prog 194 [zbw [s],zbw b] (zbw (zd4 [s] b)):=by
 refine zab mixed Tryz.func194 rfl c_194 ?_
 simp+decide[Tryz.f194,int]
 refine zai.pure (by rfl) (yda s hs) (by simp) ?_
 simp+decide[int]
 refine zae mixed (λk:Nat=>{n:=27,next:=1,slots:=[(1,.d (zbw b)),(5,.d (zbw (zd4 [s] (b.take k)))),(6,.d (int k))],own:=[]})
  (λk=>k<=b.length) (λk=>b.length-k) 0 (by simp) (by simp+decide[int,zd4]) ?_
 intro k K
 by_cases H:k<b.length
 .have G:(k:Int)<b.length:=by omega
  obtain⟨y,ey'⟩:∃ y,b[k]=y:=⟨_,rfl⟩;have ey:b[k]?=some y:=by rw[List.getElem?_eq_getElem H,ey']
  have hsn:=z95 (a:=[s]) H;rw[ey'] at hsn;have F:=yc9 hs (b.take k);generalize zd4 [s] (b.take k)=W at F hsn ⊢;simp+decide[int,zbw,Sp.row,H,G,ey,ey'];refine zai.pure (by rfl) (zbc _ _) (by simp[int]) ?_
  by_cases r1:zca y.fr y.tO=true
  .rw[if_pos r1] at hsn
   simp+decide[int,zbw,Sp.row,r1,H,G,ey,ey'];refine zai.pure (by rfl) (z96 W y (by omega)) (by simp[zbw,Sp.row,int]) ?_
   simp+decide[int,zbw,I64];exact⟨by omega,k+1,H,by omega,by rw[hsn],by omega⟩
  .rw[if_neg r1] at hsn
   simp+decide[int,zbw,Sp.row,r1,I64];exact⟨by omega,k+1,H,by omega,by rw[hsn],by omega⟩
 .have:k=b.length:=by omega
  subst this;rw[List.take_length];simp+decide[int,zbw,Sp.row]
theorem ydb(l:List Sp)(s:Sp)(H:l.length<2^62):zan Tryz.prog 137 [zbw l,.agg s.row] (.bool (ze6 l s)):=by
 refine zab mixed Tryz.func137 rfl c_137 ?_
 simp+decide[Tryz.f137,int,Sp.row]
 refine zai.pure (by rfl) (zbc _ _) (by simp[int]) ?_
 by_cases r1:zca s.fr s.tO=true
 case neg=>simp+decide[int,r1,ze6]
 simp+decide[int,r1]
 refine zuq (by rfl) (yh6 s r1 l H) (by simp) ?_
 simp+decide[int,zbw]
 cases G:zd4 [s] l with
 |nil=>simp+decide[ze6,r1,G]
 |cons y r=>
  have:¬(r.length:Int)+1=0:=by omega
  simp+decide[ze6,r1,G,this]
def sibs(l:List Nt)(t p:Int):List Nt:=l.filter λn=>decide (n.tier=t)&&decide (n.par=p)
theorem z7l(l:List Nt)(t p:Int):(sibs l t p).length<=l.length:=List.length_filter_le _ _
theorem z3w(d:Dc)(t p:Int)(K:d.notes.length<2^40):zan Tryz.prog 134 [docD d,int t,int p] (zak (sibs d.notes t p)):=by
 refine zbp mixed Tryz.func134 rfl c_134 [2] ?_
 simp+decide[Tryz.f134,docD,Dc.row,int,ints,zad]
 refine zae mixed (λk:Nat=>{n:=44,next:=3,slots:=[(1,.d (int t)),(2,.d (int p)),(3,.bp 0 0),(7,.ar 2),(8,.d (.int .i64 k))],own:=[(0,.box 53 (zbd d)),(2,.arr 72 7 ((sibs (d.notes.take k) t p).map Nt.row))],moved:=[2]})
  (λk=>k<=d.notes.length) (λk=>d.notes.length-k) 0 (by simp) (by simp+decide[int,ints,zad,zak,sibs]) ?_
 intro k J
 by_cases H:k<d.notes.length
 .have G:(k:Int)<d.notes.length:=by omega
  obtain⟨n,en'⟩:∃ n,d.notes[k]=n:=⟨_,rfl⟩;have en:d.notes[k]?=some n:=by rw[List.getElem?_eq_getElem H,en']
  have hsn:sibs (d.notes.take (k+1)) t p=sibs (d.notes.take k) t p++(if n.tier=t/\n.par=p then [n] else []):=by
   rw[take_snoc' H];unfold sibs;rw[List.filter_append,en'];by_cases L:n.tier=t <;> by_cases h2:n.par=p <;> simp[L,h2]
  have F:=z7l (d.notes.take k) t p;have E:(d.notes.take k).length=k:=by rw[List.length_take];omega
  rw[E] at F;generalize sibs (d.notes.take k) t p=W at hsn F ⊢;by_cases L:n.tier=t
  .by_cases h2:n.par=p
   .rw[if_pos ⟨L,h2⟩] at hsn
    simp+decide[zak,Nt.row,int,H,G,en,en',I64,L,h2];refine⟨by omega,by unfold maxLen;omega,by omega,k+1,H,by omega,by omega,?_⟩
    rw[hsn];simp[Nt.row,int,L,h2]
   .rw[if_neg (λh=>h2 h.2),List.append_nil] at hsn
    simp+decide[zak,Nt.row,int,H,G,en,en',I64,L,h2];exact⟨by omega,k+1,H,by omega,by omega,by rw[hsn]⟩
  .rw[if_neg (λh=>L h.1),List.append_nil] at hsn
   simp+decide[zak,Nt.row,int,H,G,en,en',I64,L];exact⟨by omega,k+1,H,by omega,by omega,by rw[hsn]⟩
 .have:k=d.notes.length:=by omega
  subst this;rw[List.take_length];simp+decide[zak,int]
def spansOf(l:List Nt):List Sp:=l.map λn=>⟨n.fr,n.tO⟩
theorem yh7(l:List Nt)(E:l.length<2^40):zan Tryz.prog 138 [zak l] (zbw (spansOf l)):=by
 refine zbp mixed Tryz.func138 rfl c_138 [1] ?_
 simp+decide[Tryz.f138,int]
 refine zae mixed (λk:Nat=>{n:=21,next:=2,slots:=[(0,.d (zak l)),(3,.ar 1),(4,.d (.int .i64 k))],own:=[(1,.arr 70 2 ((spansOf (l.take k)).map Sp.row))],moved:=[1]})
  (λk=>k<=l.length) (λk=>l.length-k) 0 (by simp) (by simp+decide[int,zak,spansOf]) ?_
 intro k K
 by_cases H:k<l.length
 .have G:(k:Int)<l.length:=by omega
  obtain⟨n,en'⟩:∃ n,l[k]=n:=⟨_,rfl⟩;have en:l[k]?=some n:=by rw[List.getElem?_eq_getElem H,en']
  have hsn:spansOf (l.take (k+1))=spansOf (l.take k)++[⟨n.fr,n.tO⟩]:=by
   rw[take_snoc' H];unfold spansOf;rw[List.map_append,en'];rfl
  have F:(spansOf (l.take k)).length=k:=by unfold spansOf;rw[List.length_map,List.length_take];omega
  generalize spansOf (l.take k)=W at hsn F ⊢;simp+decide[zak,Nt.row,int,H,G,en,en',I64];refine⟨by omega,by unfold maxLen;omega,by omega,k+1,H,by omega,by omega,?_⟩
  rw[hsn];simp[Sp.row,int]
 .have:k=l.length:=by omega
  subst this;rw[List.take_length];simp+decide[zak,zbw,int]
def zxl(l:List Nt)(i k:Nat):Bool:=decide ((l[i]?.getD default).fr<(l[k]?.getD default).tO)&&decide ((l[k]?.getD default).fr<(l[i]?.getD default).tO)
def zhf(l:List Nt):Bool:=(List.range l.length).any λi=>(List.range i).any λk=>zxl l i k
theorem zmd{l:List Nt}:zhf l=false↔∀ i,i<l.length->∀ k,k<i->zxl l i k=false:=by
 unfold zhf
 rw[List.any_eq_false]
 refine⟨λh i hi k H=>?_,λh i hi=>?_⟩
 .have:=h i (List.mem_range.2 hi)
  rw[Bool.not_eq_true,List.any_eq_false] at this;simpa using this k (List.mem_range.2 H)
 .rw[Bool.not_eq_true,List.any_eq_false]
  intro k H;simpa using h i (List.mem_range.1 hi) k (List.mem_range.1 H)
theorem z97{l:List Nt}{i k:Nat}(hi:i<l.length)(H:k<i)(h:zxl l i k=true):zhf l=true:=by
 cases e:zhf l with
 |true=>rfl
 |false=>rw[zmd] at e;rw[e i hi k H] at h;cases h
theorem zo1(l:List Nt)(L:l.length<2^40):zan Tryz.prog 136 [zak l] (.bool (zhf l)):=by
 refine zab mixed Tryz.func136 rfl c_136 ?_
 simp+decide[Tryz.f136,int]
 refine zae mixed (λi:Nat=>{n:=44,next:=0,slots:=[(0,.d (zak l)),(3,.d (.int .i64 i))],own:=[]})
  (λi=>i<=l.length/\∀ j,j<i->∀ k,k<j->zxl l j k=false) (λi=>l.length-i) 0 (by simp) (by simp+decide[int,zak]) ?_
 rintro i ⟨hi,M⟩
 by_cases E:i<l.length
 .have H:(i:Int)<l.length:=by omega
  obtain⟨n,en'⟩:∃ n,l[i]=n:=⟨_,rfl⟩;have en:l[i]?=some n:=by rw[List.getElem?_eq_getElem E,en']
  simp+decide[zak,int,H];refine zae mixed (λk:Nat=>{n:=44,next:=0,slots:=[(0,.d (zak l)),(3,.d (.int .i64 i)),(4,.d (.int .i64 k))],own:=[]})
   (λk=>k<=i/\∀ j,j<k->zxl l i j=false) (λk=>i-k) 0 (by simp) (by simp+decide[int,zak]) ?_
  rintro k ⟨O,Q⟩
  by_cases K:k<i
  .have G:(k:Int)<i:=by omega
   have J:k<l.length:=by omega
   have F:(k:Int)<l.length:=by omega
   obtain⟨m,em'⟩:∃ m,l[k]=m:=⟨_,rfl⟩;have em:l[k]?=some m:=by rw[List.getElem?_eq_getElem J,em']
   have T:zxl l i k=(decide (n.fr<m.tO)&&decide (m.fr<n.tO)):=by simp only[zxl,en,em,Option.getD_some]
   by_cases c1:n.fr<m.tO
   .by_cases c2:m.fr<n.tO
    .have:=z97 E K (by rw[T];simp[c1,c2])
     simp+decide[zak,Nt.row,int,E,H,K,G,J,F,en,en',em,em',c1,c2,this]
    .simp+decide[zak,Nt.row,int,E,H,K,G,J,F,en,en',em,em',c1,c2,I64]
     refine⟨by omega,k+1,⟨by omega,λj hj=>?_⟩,by omega,by omega⟩
     rcases Nat.lt_or_ge j k with h | h
     .exact Q j h
     .have:j=k:=by omega
      subst this;rw[T];simp[c2]
   .simp+decide[zak,Nt.row,int,E,H,K,G,J,F,en,en',em,em',c1,I64]
    refine⟨by omega,k+1,⟨by omega,λj hj=>?_⟩,by omega,by omega⟩
    rcases Nat.lt_or_ge j k with h | h
    .exact Q j h
    .have:j=k:=by omega
     subst this;rw[T];simp[c1]
  .have:k=i:=by omega
   subst this;simp+decide[zak,int,I64];refine⟨by omega,k+1,⟨by omega,λj hj=>?_⟩,by omega,by omega⟩
   rcases Nat.lt_or_ge j k with h | h
   .exact M j h
   .have:j=k:=by omega
    subst this;exact Q
 .have:i=l.length:=by omega
  subst this;simp+decide[zak,int,zmd.2 M]
def zrk(l:List Nt):Bool:=(List.range l.length).all λn=>l.any λm=>decide (m.rank=n)
theorem zk0{l:List Nt}:zrk l=true↔∀ n:Nat,n<l.length->(l.any λm=>decide (m.rank=n))=true:=by
 unfold zrk
 rw[List.all_eq_true]
 exact⟨λh n H=>h n (List.mem_range.2 H),λh n H=>h n (List.mem_range.1 H)⟩
theorem ydc(l:List Nt)(K:l.length<2^40):zan Tryz.prog 139 [zak l] (.bool (zrk l)):=by
 refine zab mixed Tryz.func139 rfl c_139 ?_
 simp+decide[Tryz.f139,int]
 refine zae mixed (λi:Nat=>{n:=30,next:=0,slots:=[(0,.d (zak l)),(3,.d (.int .i64 i))],own:=[]})
  (λi=>i<=l.length/\∀ n:Nat,n<i->(l.any λm=>decide (m.rank=n))=true) (λi=>l.length-i) 0 (by simp) (by simp+decide[int,zak]) ?_
 rintro i ⟨hi,J⟩
 by_cases E:i<l.length
 .have F:(i:Int)<l.length:=by omega
  simp+decide[zak,int,F];refine zae mixed (λk:Nat=>{n:=30,next:=0,slots:=[(0,.d (zak l)),(3,.d (.int .i64 i)),(4,.d (.bool ((l.take k).any λm=>decide (m.rank=i)))),(5,.d (.int .i64 k))],own:=[]})
   (λk=>k<=l.length) (λk=>l.length-k) 0 (by simp) (by simp+decide[int,zak]) ?_
  intro k L;by_cases H:k<l.length
  .have G:(k:Int)<l.length:=by omega
   obtain⟨m,em'⟩:∃ m,l[k]=m:=⟨_,rfl⟩;have em:l[k]?=some m:=by rw[List.getElem?_eq_getElem H,em']
   have hsn:((l.take (k+1)).any λm=>decide (m.rank=i))=(((l.take k).any λm=>decide (m.rank=i)) || decide (m.rank=i)):=by rw[zxf H,em']
   cases M:(l.take k).any λm=>decide (m.rank=i)
   .rw[M,Bool.false_or] at hsn
    by_cases c1:m.rank=i
    .rw[decide_eq_true c1] at hsn
     simp+decide[zak,Nt.row,int,H,G,em,em',c1,I64];exact⟨by omega,k+1,H,by omega,by simpa using hsn,by omega⟩
    .rw[decide_eq_false c1] at hsn
     simp+decide[zak,Nt.row,int,H,G,em,em',c1,I64];exact⟨by omega,k+1,H,by omega,by simpa using hsn,by omega⟩
   .rw[M,Bool.true_or] at hsn
    simp+decide[zak,Nt.row,int,H,G,I64];exact⟨by omega,k+1,H,by omega,by simpa using hsn,by omega⟩
  .have:k=l.length:=by omega
   subst this;rw[List.take_length];cases M:l.any λm=>decide (m.rank=i)
   .have:zrk l=false:=by
     cases e:zrk l with
     |false=>rfl
     |true=>rw[zk0] at e;rw[e i E] at M;cases M
    simp+decide[zak,int,this]
   .simp+decide[zak,int,I64]
    refine⟨by omega,i+1,⟨by omega,λj hj=>?_⟩,by omega,by omega⟩
    rcases Nat.lt_or_ge j i with h | h
    .simpa using J j h
    .have:j=i:=by omega
     subst this;simpa using M
 .have:i=l.length:=by omega
  subst this;simp+decide[zak,int,zk0.2 J]
def zsk(d:Dc)(t kind:Int)(n:Nt)(out:Int):Int:=
 if kind=1 then (if ze6 (spansOf (sibs d.notes t n.par)) ⟨(getN d.notes n.par).1.fr,(getN d.notes n.par).1.tO⟩=true then out else 16)
 else if kind=3 then (if zrk (sibs d.notes t n.par)=true then out else 10)
 else if kind=4 then (if 1<(sibs d.notes t n.par).length then 8 else out) else out
def zo2(d:Dc)(t kind:Int):List Nt->Int->Int
 | [],out=>out
 |n::r,out=>if n.tier=t then (if alK kind=true/\zhf (sibs d.notes t n.par)=true then 15 else zo2 d t kind r (zsk d t kind n out)) else zo2 d t kind r out
def terE(d:Dc)(t:Int):Int:=zo2 d t (zci d t).kind d.notes 0
theorem zz2(d:Dc)(t:Nat)(O:t<d.tiers.length)(Q:d.notes.length<2^40):zan Tryz.prog 81 [docD d,int t] (int (terE d t)):=by
 refine zab mixed Tryz.func81 rfl c_81 ?_
 have J:(t:Int)<d.tiers.length:=by omega
 obtain⟨tt,et'⟩:∃ tt,d.tiers[t]=tt:=⟨_,rfl⟩
 have et:d.tiers[t]?=some tt:=by rw[List.getElem?_eq_getElem O,et']
 have L:(zci d (t:Int))=tt:=by simp[zci,et]
 unfold terE
 rw[L]
 obtain⟨tn,kd,tr,tp⟩:=tt
 simp+decide[Tryz.f81,docD,Dc.row,int,ints,zad,Tir.row,O,J,et,et']
 refine zae mixed (λx:Nat×Int=>{n:=77,next:=1,slots:=[(1,.d (int t)),(2,.bp 0 0),(5,.d (int kd)),(6,.d (int x.2)),(7,.d (.int .i64 x.1))],own:=[(0,.box 53 (zbd d))]})
  (λx=>x.1<=d.notes.length/\zo2 d t kd d.notes 0=zo2 d t kd (d.notes.drop x.1) x.2) (λx=>d.notes.length-x.1) (0,0) (by simp) (by simp+decide[int,ints,zad,zak]) ?_
 rintro⟨k,out⟩ ⟨T,V⟩
 simp only at T V
 by_cases G:k<d.notes.length
 case neg=>
  have:k=d.notes.length:=by omega
  subst this;rw[List.drop_length] at V;simp+decide[int,zak,V,zo2]
 have F:(k:Int)<d.notes.length:=by omega
 obtain⟨n,en'⟩:∃ n,d.notes[k]=n:=⟨_,rfl⟩
 have en:d.notes[k]?=some n:=by rw[List.getElem?_eq_getElem G,en']
 rw[List.drop_eq_getElem_cons G,en'] at V
 simp only[zo2] at V
 by_cases X:n.tier=t
 case neg=>
  rw[if_neg X] at V;simp+decide[int,zak,Nt.row,G,F,en,en',X,I64];exact⟨by omega,k+1,out,⟨G,V⟩,by omega,by omega⟩
 rw[if_pos X] at V
 simp+decide[int,zak,Nt.row,G,F,en,en',X]
 have M:=z7l d.notes t n.par
 refine zai.pure (by rfl) (z3w d t n.par Q) (by simp+decide[docD,Dc.row,int,ints,zad,zak]) ?_
 generalize Y:sibs d.notes t n.par=S at V M ⊢
 simp+decide[int]
 refine zai.pure (by rfl) (zd3 kd) (by simp[int]) ?_
 have fin:∀ out',zsk d t kd n out=out'->(alK kd=true->zhf S=false)->zo2 d t kd d.notes 0=zo2 d t kd (d.notes.drop (k+1)) out':=by
  intro out' e h;rw[if_neg (by rintro⟨a,b⟩;rw[h a] at b;cases b),e] at V
  exact V
 have E:alK kd=true->zhf S=true->zo2 d t kd d.notes 0=15:=by
  intro a b;rw[if_pos ⟨a,b⟩] at V;exact V
 have H:zsk d t kd n out=if kd=1 then (if ze6 (spansOf S) ⟨(getN d.notes n.par).1.fr,(getN d.notes n.par).1.tO⟩=true then out else 16)
  else if kd=3 then (if zrk S=true then out else 10) else if kd=4 then (if 1<S.length then 8 else out) else out:=by
  simp only[zsk,Y]
 clear V
 generalize Z:zo2 d t kd d.notes 0=TT at fin E ⊢
 by_cases k0:kd=0
 .subst k0
  have A:alK 0=true:=rfl
  simp+decide[int,A];refine zai.pure (by rfl) (zo1 S (by omega)) (by simp[zak,Nt.row,int]) ?_
  cases B:zhf S with
  |true=>simp+decide[int,E A B]
  |false=>
   have HO:alK 0=true->zhf S=false:=λ_=>B
   simp+decide[int,zak,Nt.row];refine zai.pure (by rfl) (zc0 d n.par (by omega)) (by simp+decide[docD,Dc.row,int,ints,zad,zak]) ?_
   obtain⟨⟨p,ok⟩,eg⟩:∃ g,getN d.notes n.par=g:=⟨_,rfl⟩;rw[eg] at H ⊢;obtain⟨pi,pt,pp,pf,pto,prr,px⟩:=p;simp only[getD',Nt.row] at H ⊢;simp at H
   simp+decide[int,zak,Nt.row,I64,A];exact⟨by omega,k+1,out,⟨G,fin _ H HO⟩,by omega,by omega⟩
 by_cases k1:kd=1
 .subst k1
  have A:alK 1=true:=rfl
  simp+decide[int,A];refine zai.pure (by rfl) (zo1 S (by omega)) (by simp[zak,Nt.row,int]) ?_
  cases B:zhf S with
  |true=>simp+decide[int,E A B]
  |false=>
   have HO:alK 1=true->zhf S=false:=λ_=>B
   simp+decide[int,zak,Nt.row];refine zai.pure (by rfl) (zc0 d n.par (by omega)) (by simp+decide[docD,Dc.row,int,ints,zad,zak]) ?_
   obtain⟨⟨p,ok⟩,eg⟩:∃ g,getN d.notes n.par=g:=⟨_,rfl⟩;rw[eg] at H ⊢;obtain⟨pi,pt,pp,pf,pto,prr,px⟩:=p;simp only[getD',Nt.row] at H ⊢;simp+decide[int,zak,Nt.row,I64,A];refine zaa (by rfl) (by rfl) (yh7 S (by omega)) (by simp[zak,Nt.row,int]) ?_
   simp+decide[int,zak,Nt.row,I64,A];refine zaa (by rfl) (by rfl) (ydb (spansOf S) ⟨pf,pto⟩ (by unfold spansOf;rw[List.length_map];omega)) (by simp[Sp.row,int]) ?_
   by_cases C:ze6 (spansOf S) ⟨pf,pto⟩=true
   .simp[C] at H
    simp+decide[int,zak,Nt.row,I64,A,C];exact⟨by omega,k+1,out,⟨G,fin _ H HO⟩,by omega,by omega⟩
   .simp[C] at H
    simp+decide[int,zak,Nt.row,I64,A,C];exact⟨by omega,k+1,16,⟨G,fin _ H HO⟩,by omega,by omega⟩
 by_cases k2:kd=2
 .subst k2
  have A:alK 2=true:=rfl
  simp+decide[int,A];refine zai.pure (by rfl) (zo1 S (by omega)) (by simp[zak,Nt.row,int]) ?_
  cases B:zhf S with
  |true=>simp+decide[int,E A B]
  |false=>
   have HO:alK 2=true->zhf S=false:=λ_=>B
   simp+decide[int,zak,Nt.row];refine zai.pure (by rfl) (zc0 d n.par (by omega)) (by simp+decide[docD,Dc.row,int,ints,zad,zak]) ?_
   obtain⟨⟨p,ok⟩,eg⟩:∃ g,getN d.notes n.par=g:=⟨_,rfl⟩;rw[eg] at H ⊢;obtain⟨pi,pt,pp,pf,pto,prr,px⟩:=p;simp only[getD',Nt.row] at H ⊢;simp at H
   simp+decide[int,zak,Nt.row,I64,A];exact⟨by omega,k+1,out,⟨G,fin _ H HO⟩,by omega,by omega⟩
 by_cases k3:kd=3
 .subst k3
  have A:alK 3=false:=rfl
  have HO:alK 3=true->zhf S=false:=λh=>by rw[A] at h;cases h
  simp+decide[int,A,zak,Nt.row];refine zai.pure (by rfl) (zc0 d n.par (by omega)) (by simp+decide[docD,Dc.row,int,ints,zad,zak]) ?_
  obtain⟨⟨p,ok⟩,eg⟩:∃ g,getN d.notes n.par=g:=⟨_,rfl⟩;rw[eg] at H ⊢;obtain⟨pi,pt,pp,pf,pto,prr,px⟩:=p;simp only[getD',Nt.row] at H ⊢;simp+decide[int,zak,Nt.row,I64,A];refine zai.pure (by rfl) (ydc S (by omega)) (by simp[zak,Nt.row,int]) ?_
  by_cases C:zrk S=true
  .simp[C] at H
   simp+decide[int,zak,Nt.row,I64,A,C];exact⟨by omega,k+1,out,⟨G,fin _ H HO⟩,by omega,by omega⟩
  .simp[C] at H
   simp+decide[int,zak,Nt.row,I64,A,C];exact⟨by omega,k+1,10,⟨G,fin _ H HO⟩,by omega,by omega⟩
 by_cases k4:kd=4
 .subst k4
  have A:alK 4=false:=rfl
  have HO:alK 4=true->zhf S=false:=λh=>by rw[A] at h;cases h
  simp+decide[int,A,zak,Nt.row];refine zai.pure (by rfl) (zc0 d n.par (by omega)) (by simp+decide[docD,Dc.row,int,ints,zad,zak]) ?_
  obtain⟨⟨p,ok⟩,eg⟩:∃ g,getN d.notes n.par=g:=⟨_,rfl⟩;rw[eg] at H ⊢;obtain⟨pi,pt,pp,pf,pto,prr,px⟩:=p;simp only[getD',Nt.row] at H ⊢;by_cases C:1<S.length
  .have K:(1:Int)<S.length:=by omega
   simp[C] at H;simp+decide[int,zak,Nt.row,I64,A,C,K];exact⟨by omega,k+1,8,⟨G,fin _ H HO⟩,by omega,by omega⟩
  .have K:¬(1:Int)<S.length:=by omega
   simp[C] at H;simp+decide[int,zak,Nt.row,I64,A,C,K];exact⟨by omega,k+1,out,⟨G,fin _ H HO⟩,by omega,by omega⟩
 have A:alK kd=false:=by simp[alK,k0,k1,k2]
 have HO:alK kd=true->zhf S=false:=λh=>by rw[A] at h;cases h
 simp+decide[int,A,zak,Nt.row]
 refine zai.pure (by rfl) (zc0 d n.par (by omega)) (by simp+decide[docD,Dc.row,int,ints,zad,zak]) ?_
 obtain⟨⟨p,ok⟩,eg⟩:∃ g,getN d.notes n.par=g:=⟨_,rfl⟩
 rw[eg] at H ⊢
 obtain⟨pi,pt,pp,pf,pto,prr,px⟩:=p
 simp only[getD',Nt.row] at H ⊢
 simp[k1,k3,k4] at H
 simp+decide[int,zak,Nt.row,I64,A,k1,k3,k4]
 exact⟨by omega,k+1,out,⟨G,fin _ H HO⟩,by omega,by omega⟩
def zhs(d:Dc):Nat->Nat->Int
 |0,_=>0
 |m+1,i=>if i<d.tiers.length then (if terE d i=0 then zhs d m (i+1) else terE d i) else 0
def refE(d:Dc):Int:=
 if zhq d.tiers≠0 then zhq d.tiers else if d.len<0\/86400000<d.len then 12 else if 300<d.notes.length then 11
 else if zdd d d.notes.length 0≠0 then zdd d d.notes.length 0 else zhs d d.tiers.length 0
theorem z3x(d:Dc)(K:d.tiers.length<2^40)(J:d.notes.length<2^40)(hs:∀ t∈d.tiers,t.name.size<=9223372036854775807)(L:∀ n∈d.notes,n.text.size<=9223372036854775807):
  zan Tryz.prog 32 [docD d] (int (refE d)):=by
 refine zab mixed Tryz.func32 rfl c_32 ?_
 simp+decide[Tryz.f32,docD,Dc.row]
 refine zai.pure (by rfl) (z3p d.tiers (by omega) hs) (by simp) ?_
 by_cases M:zhq d.tiers=0
 case neg=>simp+decide[int,M,refE]
 by_cases h2:d.len<0
 .simp+decide[int,M,h2,refE]
 by_cases O:86400000<d.len
 .simp+decide[int,M,h2,O,refE]
 by_cases Q:300<d.notes.length
 .have F:(300:Int)<d.notes.length:=by omega
  simp+decide[int,M,h2,O,Q,F,refE,zak]
 have F:¬(300:Int)<d.notes.length:=by omega
 have T:refE d=if zdd d d.notes.length 0=0 then zhs d d.tiers.length 0 else zdd d d.notes.length 0:=by
  simp only[refE];rw[if_neg (by simpa using M),if_neg (by omega),if_neg Q]
  by_cases h:zdd d d.notes.length 0=0 <;> simp[h]
 rw[T]
 simp+decide[int,M,h2,O,F,zak]
 refine zae mixed (λi:Nat=>{n:=54,next:=1,slots:=[(1,.bp 0 0),(4,.d (.int .i64 i))],own:=[(0,.box 53 (zbd d))]})
  (λi=>i<=d.notes.length/\zdd d d.notes.length 0=zdd d (d.notes.length-i) i) (λi=>d.notes.length-i) 0 (by simp) (by simp+decide[int,zak,zad,ints]) ?_
 rintro i ⟨hi,V⟩
 by_cases G:i<d.notes.length
 .obtain⟨m,X⟩:∃ m,d.notes.length-i=m+1:=⟨d.notes.length-i-1,by omega⟩
  have E:d.notes.length-(i+1)=m:=by omega
  rw[X,zo0,if_pos G] at V;have H:(i:Int)<d.notes.length:=by omega
  simp+decide[int,zak,H];refine zai.pure (by rfl) (zzx d i G (by omega) (by omega) L) (by simp+decide[docD,Dc.row,int,ints,zad,zak]) ?_
  by_cases Y:zgg d i=0
  .rw[if_pos Y] at V
   simp+decide[int,Y,I64];exact⟨by omega,i+1,⟨by omega,by rw[V,E]⟩,by omega,by simp[zak]⟩
  .rw[if_neg Y] at V
   simp+decide[int,Y,V]
 .have:i=d.notes.length:=by omega
  subst this;rw[Nat.sub_self] at V;rw[V];simp+decide[int,zdd,zad,zak];refine zae mixed (λi:Nat=>{n:=54,next:=1,slots:=[(1,.bp 0 0),(6,.d (.int .i64 i))],own:=[(0,.box 53 (zbd d))]})
   (λi=>i<=d.tiers.length/\zhs d d.tiers.length 0=zhs d (d.tiers.length-i) i) (λi=>d.tiers.length-i) 0 (by simp) (by simp+decide[int,zak,zad,ints]) ?_
  rintro i ⟨hi,V⟩
  by_cases G:i<d.tiers.length
  .have H:(i:Int)<d.tiers.length:=by omega
   obtain⟨m,X⟩:∃ m,d.tiers.length-i=m+1:=⟨d.tiers.length-i-1,by omega⟩
   have E:d.tiers.length-(i+1)=m:=by omega
   rw[X] at V;simp only[zhs,if_pos G] at V;simp+decide[int,zad,H];refine zai.pure (by rfl) (zz2 d i G (by omega)) (by simp+decide[docD,Dc.row,int,ints,zad,zak]) ?_
   by_cases Y:terE d i=0
   .rw[if_pos Y] at V
    simp+decide[int,Y,I64];exact⟨by omega,i+1,⟨by omega,by rw[V,E]⟩,by omega,by simp[zad]⟩
   .rw[if_neg Y] at V
    simp+decide[int,Y,V]
  .have:i=d.tiers.length:=by omega
   subst this;rw[Nat.sub_self] at V;simp+decide[int,zad,V,zhs]
def zlq(d:Dc):Bool:=decide (d.notes.length<=14)&&decide (d.tiers.length<=6)&&decide (d.spk.length<=6)&&decide (refE d=0)
theorem yh8(d:Dc)(hs:∀ t∈d.tiers,t.name.size<=9223372036854775807)(H:∀ n∈d.notes,n.text.size<=9223372036854775807):
  zan Tryz.prog 17 [docD d] (.bool (zlq d)):=by
 refine zab mixed Tryz.func17 rfl c_17 ?_
 by_cases G:d.notes.length<=14
 case neg=>
  have g1:¬(d.notes.length:Int)<=14:=by omega
  simp+decide[Tryz.f17,docD,Dc.row,zak,zad,ints,int,zlq,G,g1]
 have g1:(d.notes.length:Int)<=14:=by omega
 by_cases h2:d.tiers.length<=6
 case neg=>
  have g2:¬(d.tiers.length:Int)<=6:=by omega
  simp+decide[Tryz.f17,docD,Dc.row,zak,zad,ints,int,zlq,G,g1,h2,g2]
 have g2:(d.tiers.length:Int)<=6:=by omega
 by_cases F:d.spk.length<=6
 case neg=>
  have g3:¬(d.spk.length:Int)<=6:=by omega
  simp+decide[Tryz.f17,docD,Dc.row,zak,zad,ints,int,zlq,G,g1,h2,g2,F,g3]
 have g3:(d.spk.length:Int)<=6:=by omega
 simp+decide[Tryz.f17,docD,Dc.row,zak,zad,ints,int,g1,g2,g3]
 refine zai.pure (by rfl) (z3x d (by omega) (by omega) hs H) (by simp+decide[docD,Dc.row,int,ints,zad,zak]) ?_
 by_cases E:refE d=0
 .simp+decide[int,E,zlq,G,h2,F]
 .simp+decide[int,E,zlq,G,h2,F]
def inS(l:List Sp)(v:Int):Prop:=∃ y∈l,y.fr<=v/\v<y.tO
theorem ykr{s:Sp}:s.rt=true↔0<=s.fr/\s.fr<s.tO/\s.tO<=86400000:=by
 simp only[Sp.rt,zca,Bool.and_eq_true,decide_eq_true_eq,and_assoc]
theorem ydd{x s:Sp}(H:x.rt=true)(hs:s.rt=true)(v:Int):inS (cut1 x s) v↔(x.fr<=v/\v<x.tO)/\¬(s.fr<=v/\v<s.tO):=by
 rw[ykr] at H hs
 obtain⟨a1,a2,a3⟩:=H
 obtain⟨b1,b2,b3⟩:=hs
 have e1:zca x.fr (min x.tO s.fr)=true↔x.fr<min x.tO s.fr:=by
  simp only[zca,Bool.and_eq_true,decide_eq_true_eq];omega
 have e2:zca (max x.fr s.tO) x.tO=true↔max x.fr s.tO<x.tO:=by
  simp only[zca,Bool.and_eq_true,decide_eq_true_eq];omega
 unfold inS cut1
 constructor
 .rintro⟨y,G,F,h2⟩
  rcases List.mem_append.1 G with h | h
  .split at h
   .simp at h;subst h;simp only at F h2;omega
   .cases h
  .split at h
   .simp at h;subst h;simp only at F h2;omega
   .cases h
 .rintro⟨⟨F,h2⟩,E⟩
  by_cases K:v<s.fr
  .refine⟨⟨x.fr,min x.tO s.fr⟩,?_,F,by simp only;omega⟩
   rw[if_pos (e1.2 (by omega))];simp
  .refine⟨⟨max x.fr s.tO,x.tO⟩,?_,by simp only;omega,h2⟩
   rw[if_pos (e2.2 (by omega))];simp
theorem z98{s:Sp}(hs:s.rt=true)(v:Int){l:List Sp}(H:∀ x∈l,x.rt=true):inS (zbx l s) v↔inS l v/\¬(s.fr<=v/\v<s.tO):=by
 unfold zbx
 constructor
 .rintro⟨y,G,F⟩
  obtain⟨x,E,h⟩:=List.mem_flatMap.1 G;have:=(ydd (H x E) hs v).1 ⟨y,h,F⟩
  exact⟨⟨x,E,this.1⟩,this.2⟩
 .rintro⟨⟨x,E,F⟩,h2⟩
  obtain⟨y,G,K⟩:=(ydd (H x E) hs v).2 ⟨F,h2⟩;exact⟨y,List.mem_flatMap.2 ⟨x,E,G⟩,K⟩
theorem zrv(v:Int):∀ (b a:List Sp),(∀ x∈a,x.rt=true)->(inS (zd4 a b) v↔inS a v/\∀ y∈b,y.rt=true->¬(y.fr<=v/\v<y.tO))
 | [],a,h=>by simp[zd4]
 |y::r,a,h=>by
  have e:zd4 a (y::r)=zd4 (if y.rt=true then zbx a y else a) r:=rfl
  rw[e];by_cases H:y.rt=true
  .rw[if_pos H,zrv v r _ zvx,z98 H v h]
   constructor
   .rintro⟨⟨G,h2⟩,F⟩
    refine⟨G,λz E K=>?_⟩
    rcases List.mem_cons.1 E with rfl | E
    .exact h2
    .exact F z E K
   .rintro⟨G,F⟩
    exact⟨⟨G,F y (by simp) H⟩,λz E K=>F z (by simp[E]) K⟩
  .rw[if_neg H,zrv v r _ h]
   constructor
   .rintro⟨G,F⟩
    refine⟨G,λz E K=>?_⟩
    rcases List.mem_cons.1 E with rfl | E
    .exact absurd K H
    .exact F z E K
   .rintro⟨G,F⟩
    exact⟨G,λz E K=>F z (by simp[E]) K⟩
theorem zsl{l:List Sp}{s:Sp}:ze6 l s=true↔s.rt=true/\∀ v,s.fr<=v->v<s.tO->∃ y∈l,y.rt=true/\y.fr<=v/\v<y.tO:=by
 unfold ze6
 rw[Bool.and_eq_true]
 constructor
 .rintro⟨hs,F⟩
  refine⟨hs,λv E h2=>?_⟩
  have K:=zrv v l [s] (by simpa using hs)
  rw[List.isEmpty_iff.1 F] at K;have J:¬inS [] v:=by rintro⟨y,L,_⟩;cases L
  have:¬(inS [s] v/\∀ y∈l,y.rt=true->¬(y.fr<=v/\v<y.tO)):=λh=>J (K.2 h)
  apply Classical.byContradiction
  intro M;exact this ⟨⟨s,by simp,E,h2⟩,λy L O Q=>M ⟨y,L,O,Q⟩⟩
 .rintro⟨hs,h⟩
  refine⟨hs,?_⟩
  have H:=(zm9 l [s] (by simpa using hs)).1
  cases K:zd4 [s] l with
  |nil=>rfl
  |cons y r=>
   exfalso
   have L:=ykr.1 (H y (by rw[K];simp))
   have G:inS (zd4 [s] l) y.fr:=⟨y,by rw[K];simp,Int.le_refl _,L.2.1⟩
   obtain⟨⟨z,T,E,h2⟩,V⟩:=(zrv y.fr l [s] (by simpa using hs)).1 G
   simp at T;subst T
   obtain⟨u,X,O,Q⟩:=h _ E h2;exact V u X O Q
theorem zz3{α:Type}{q:α->Bool}:∀ {s:List α} {i:Nat} (h:i<s.length),q s[i]=true->(s.filter q)[((s.take i).filter q).length]?=some s[i]
 |x::r,0,h,G=>by
  have H:q x=true:=G
  simp[H]
 |x::r,i+1,h,G=>by
  have F:i<r.length:=by simpa using h
  have ih:=zz3 (q:=q) F G;by_cases E:q x=true
  .simp only[List.take_succ_cons,List.filter_cons_of_pos E,List.length_cons,List.getElem?_cons_succ,List.getElem_cons_succ]
   exact ih
  .simp only[List.take_succ_cons,List.filter_cons_of_neg E,List.getElem_cons_succ]
   exact ih
theorem zme{α:Type}{q:α->Bool}:∀ {s:List α} {j:Nat},j<(s.filter q).length->∃ i,∃ h:i<s.length,q s[i]=true/\((s.take i).filter q).length=j
 | [],j,h=>by simp at h
 |x::r,j,h=>by
  by_cases H:q x=true
  .cases j with
   |zero=>exact⟨0,by simp,H,by simp⟩
   |succ j=>
    rw[List.filter_cons_of_pos H,List.length_cons] at h;obtain⟨i,hi,G,h2⟩:=zme (q:=q) (s:=r) (j:=j) (by omega)
    exact⟨i+1,by simpa using hi,G,by rw[List.take_succ_cons,List.filter_cons_of_pos H,List.length_cons,h2]⟩
  .rw[List.filter_cons_of_neg H] at h
   obtain⟨i,hi,G,h2⟩:=zme (q:=q) (s:=r) h;exact⟨i+1,by simpa using hi,G,by rw[List.take_succ_cons,List.filter_cons_of_neg H,h2]⟩
theorem ydf:∀ (l:List Int) (c:Int),l.Pairwise (·<=·)->(∀ n:Nat,n<=l.length->c+n∈l)->False
 | [],c,_,h=>by have:=h 0 (by simp);simp at this
 |x::r,c,H,h=>by
  rw[List.pairwise_cons] at H;have G:x<=c:=by
   have:=h 0 (by simp)
   rcases List.mem_cons.1 this with e | e
   .simp at e;omega
   .have:=H.1 _ e;simp at this;exact this
  refine ydf r (c+1) H.2 λn hn=>?_
  have:=h (n+1) (by simp;omega)
  rcases List.mem_cons.1 this with e | e
  .exfalso;push_cast at e;omega
  .have e2:c+1+(n:Int)=c+((n+1:Nat):Int):=by push_cast;omega
   rw[e2];exact e
theorem yks:∀ (l:List Int) (c:Int),l.Pairwise (·<=·)->(∀ n:Nat,n<l.length->c+n∈l)->∀ j:Nat,j<l.length->l[j]?=some (c+j)
 | [],c,_,h,j,F=>by simp at F
 |x::r,c,E,h,j,F=>by
  rw[List.pairwise_cons] at E;have K:x<=c:=by
   have:=h 0 (by simp)
   rcases List.mem_cons.1 this with e | e
   .simp at e;omega
   .have:=E.1 _ e;simp at this;exact this
  have H:x=c:=by
   apply Classical.byContradiction
   intro G;refine ydf r c E.2 λn J=>?_
   have:=h n (by simp;omega)
   rcases List.mem_cons.1 this with e | e
   .exfalso;omega
   .exact e
  cases j with
  |zero=>simp[H]
  |succ j=>
   have:=yks r (c+1) E.2 (λn J=>by
    have:=h (n+1) (by simp;omega)
    rcases List.mem_cons.1 this with e | e
    .exfalso;push_cast at e;omega
    .have e2:c+1+(n:Int)=c+((n+1:Nat):Int):=by push_cast;omega
     rw[e2];exact e) j (by simpa using F)
   rw[List.getElem?_cons_succ,this];congr 1;push_cast;omega
end Go.V.Doc
namespace Go.V.Doc
open Go Go.Proofs
def gN(s:List Nt)(i:Nat):Nt:=s[i]?.getD default
theorem zht{s:List Nt}{i:Nat}(h:i<s.length):gN s i=s[i]:=by unfold gN;rw[List.getElem?_eq_getElem h];rfl
theorem zgh{s:List Nt}{i:Nat}(h:i<s.length):gN s i∈s:=by rw[zht h];exact List.getElem_mem h
def evGo{α:Type}(ov bad:α->Bool)(c:Int):List α->Int->Int
 | [],out=>out
 |x::r,out=>if ov x=true then 15 else evGo ov bad c r (if bad x=true then c else out)
theorem z3y{α:Type}(ov bad:α->Bool)(c:Int):∀ (l:List α) (out:Int),evGo ov bad c l out=if l.any ov=true then 15 else if l.any bad=true then c else out
 | [],out=>by simp[evGo]
 |x::r,out=>by
  simp only[evGo];rw[z3y ov bad c r];simp only[List.any_cons];have h:∀ a b e g:Bool,(if a=true then (15:Int) else if e=true then 15 else if g=true then c else if b=true then c else out)=if (a || e)=true then 15 else if (b || g)=true then c else out:=by
   intro a b e g;cases a <;> cases b <;> cases e <;> cases g <;> simp
  exact h _ _ _ _
def z99(kd:Int):Int:=if kd=1 then 16 else if kd=3 then 10 else 8
def ovB(kd:Int)(s:List Nt)(i:Nat):Bool:=alK kd&&(!zb6 s i&&decide ((gN s i).fr<(gN s (i-1)).tO))
def badB(notes:List Nt)(kd:Int)(s:List Nt)(i:Nat):Bool:=
 (decide (kd=1)&&((zb6 s i && !decide ((gN s i).fr=(getN notes (gN s i).par).1.fr)) || (!zb6 s i && !decide ((gN s (i-1)).tO=(gN s i).fr)) || (lastB s i && !decide ((gN s i).tO=(getN notes (gN s i).par).1.tO)))) ||
 (decide (kd=3)&&((zb6 s i && !decide ((gN s i).rank=0)) || (!zb6 s i && !decide ((gN s i).rank=IntKind.i64.wrap ((gN s (i-1)).rank+1))))) ||
 (decide (kd=4) && !zb6 s i)
theorem zz4(notes:List Nt)(kd:Int)(s:List Nt):∀ (m i:Nat) (why:Int),i+m<=s.length->zsi notes kd s m i why=evGo (ovB kd s) (badB notes kd s) (z99 kd) (List.range' i m) why
 |0,i,why,_=>rfl
 |m+1,i,why,h=>by
  have ih:=λw=>zz4 notes kd s m (i+1) w (by omega)
  rw[List.range'_succ];simp only[zsi,evGo];rw[if_pos (show i<s.length by omega)]
  simp only[ih];have e1:(s[i]?.getD default)=gN s i:=rfl
  have e2:(s[i-1]?.getD default)=gN s (i-1):=rfl
  rw[e1,e2];unfold ovB badB z99;generalize gN s i=n;generalize gN s (i-1)=pv;generalize (getN notes n.par).1=p;generalize zb6 s i=F;generalize lastB s i=L;by_cases k0:kd=0
  .subst k0
   cases F <;> simp[alK]
  by_cases k1:kd=1
  .subst k1
   cases F <;> cases L <;> simp[alK]
  by_cases k2:kd=2
  .subst k2
   cases F <;> simp[alK]
  by_cases k3:kd=3
  .subst k3
   cases F <;> simp[alK]
  by_cases k4:kd=4
  .subst k4
   cases F <;> simp[alK]
  simp[alK,k0,k1,k2,k3,k4]
theorem yh9(d:Dc)(t:Int):yc5 d t=if (List.range' 0 (zfm (ofT d.notes t)).length).any (ovB (zci d t).kind (zfm (ofT d.notes t)))=true then 15
  else if (List.range' 0 (zfm (ofT d.notes t)).length).any (badB d.notes (zci d t).kind (zfm (ofT d.notes t)))=true then z99 (zci d t).kind else 0:=by
 unfold yc5
 rw[<-zju (ofT d.notes t),zz4 _ _ _ _ _ _ (by simp),z3y]
def ovR(d:Dc)(t kd:Int)(n:Nt):Bool:=alK kd&&zhf (sibs d.notes t n.par)
def badR(d:Dc)(t kd:Int)(n:Nt):Bool:=
 (decide (kd=1) && !ze6 (spansOf (sibs d.notes t n.par)) ⟨(getN d.notes n.par).1.fr,(getN d.notes n.par).1.tO⟩) || (decide (kd=3) && !zrk (sibs d.notes t n.par)) || (decide (kd=4)&&decide (1<(sibs d.notes t n.par).length))
theorem z7m(d:Dc)(t kd:Int):∀ (l:List Nt) (out:Int),zo2 d t kd l out=evGo (ovR d t kd) (badR d t kd) (z99 kd) (ofT l t) out
 | [],out=>rfl
 |n::r,out=>by
  have ih:=λw=>z7m d t kd r w
  simp only[zo2];by_cases h:n.tier=t
  .have e:ofT (n::r) t=n::ofT r t:=by unfold ofT;rw[List.filter_cons_of_pos (by simpa using h)]
   rw[if_pos h,e];simp only[evGo,ih];unfold ovR badR zsk z99;generalize ze6 (spansOf (sibs d.notes t n.par)) ⟨(getN d.notes n.par).1.fr,(getN d.notes n.par).1.tO⟩=C;generalize zrk (sibs d.notes t n.par)=R;generalize (sibs d.notes t n.par).length=z;generalize zhf (sibs d.notes t n.par)=O;by_cases k1:kd=1
   .subst k1;cases C <;> simp[alK]
   by_cases k3:kd=3
   .subst k3;cases R <;> simp[alK]
   by_cases k4:kd=4
   .subst k4;simp[alK]
   simp[k1,k3,k4]
  .have e:ofT (n::r) t=ofT r t:=by unfold ofT;rw[List.filter_cons_of_neg (by simpa using h)]
   rw[if_neg h,e,ih]
theorem yll(d:Dc)(t:Int):terE d t=if (ofT d.notes t).any (ovR d t (zci d t).kind)=true then 15 else if (ofT d.notes t).any (badR d t (zci d t).kind)=true then z99 (zci d t).kind else 0:=by
 unfold terE
 rw[z7m,z3y]
structure Srt(s:List Nt):Prop where
 par:∀ i j,i<j->j<s.length->(gN s i).par<=(gN s j).par
 fr:∀ i j,i<j->j<s.length->(gN s i).par=(gN s j).par->(gN s i).fr<=(gN s j).fr
 rank:∀ i j,i<j->j<s.length->(gN s i).par=(gN s j).par->(gN s i).fr=(gN s j).fr->(gN s i).rank<=(gN s j).rank
theorem ynx(l:List Nt):Srt (zfm l):=by
 have h:∀ i j,i<j->j<(zfm l).length->¬((gN (zfm l) j).par<(gN (zfm l) i).par\/((gN (zfm l) j).par=(gN (zfm l) i).par/\((gN (zfm l) j).fr<(gN (zfm l) i).fr\/((gN (zfm l) j).fr=(gN (zfm l) i).fr/\(gN (zfm l) j).rank<(gN (zfm l) i).rank)))):=by
  intro i j H G;have:=List.pairwise_iff_getElem.1 (zzw l) i j (by omega) G H
  rw[zsh] at this;rw[zht G,zht (show i<_ by omega)]
  exact this
 exact⟨λi j H G=>by have:=h i j H G;omega,λi j H G e=>by have:=h i j H G;omega,λi j H G e e'=>by have:=h i j H G;omega⟩
theorem zjv{s:List Nt}{i:Nat}:zb6 s i=true↔i=0\/(gN s (i-1)).par≠(gN s i).par:=by
 unfold zb6
 rw[Bool.or_eq_true,decide_eq_true_eq,Bool.not_eq_true',decide_eq_false_iff_not]
 rfl
theorem ze7{s:List Nt}{i:Nat}:zb6 s i=false↔i≠0/\(gN s (i-1)).par=(gN s i).par:=by
 rw[<-Bool.not_eq_true,zjv]
 exact⟨λh=>⟨λe=>h (.inl e),Classical.byContradiction λe=>h (.inr e)⟩,λh h'=>h'.elim (λe=>h.1 e) (λe=>e h.2)⟩
theorem z7n{s:List Nt}{i:Nat}:lastB s i=true↔i+1=s.length\/(gN s (i+1)).par≠(gN s i).par:=by
 unfold lastB
 rw[Bool.or_eq_true,decide_eq_true_eq,Bool.not_eq_true',decide_eq_false_iff_not]
 rfl
def AllP(s:List Nt):Prop:=∀ i j,i<j->j<s.length->(gN s i).par=(gN s j).par->(gN s i).tO<=(gN s j).fr
theorem yny{s:List Nt}(hs:Srt s)(h:∀ i,i<s.length->(!zb6 s i&&decide ((gN s i).fr<(gN s (i-1)).tO))=false):AllP s:=by
 intro i j H G F
 have E:(gN s i).par=(gN s (i+1)).par:=by
  rcases Nat.eq_or_lt_of_le (show i+1<=j from H) with e | e
  .rw[e];exact F
  .have a:=hs.par i (i+1) (by omega) (by omega)
   have b:=hs.par (i+1) j e G;omega
 have h2:=h (i+1) (by omega)
 have K:zb6 s (i+1)=false:=ze7.2 ⟨by omega,E⟩
 rw[K] at h2
 simp at h2
 rcases Nat.eq_or_lt_of_le (show i+1<=j from H) with e | e
 .subst e;exact h2
 .have:=hs.fr (i+1) j e G (by omega)
  omega
theorem ylm{s:List Nt}(h:AllP s):∀ i,i<s.length->(!zb6 s i&&decide ((gN s i).fr<(gN s (i-1)).tO))=false:=by
 intro i hi
 cases H:zb6 s i with
 |true=>rfl
 |false=>
  obtain⟨G,F⟩:=ze7.1 H;have:=h (i-1) i (by omega) hi F
  simp;omega
def NM(x y:Nt):Prop:=¬(x.fr<y.tO/\y.fr<x.tO)
theorem NM.symm{x y:Nt}(h:NM x y):NM y x:=λe=>h ⟨e.2,e.1⟩
theorem zz5{l:List Nt}:zhf l=false↔l.Pairwise NM:=by
 rw[zmd,List.pairwise_iff_getElem]
 constructor
 .intro h i j hi G H
  have:=h j G i H
  unfold zxl at this;rw[List.getElem?_eq_getElem G,List.getElem?_eq_getElem hi] at this;simp only[Option.getD_some,Bool.and_eq_false_iff,decide_eq_false_iff_not] at this;rintro⟨a,b⟩
  rcases this with h | h
  .exact h b
  .exact h a
 .intro h i hi k F
  have:=h k i (by omega) hi F
  unfold zxl;rw[List.getElem?_eq_getElem hi,List.getElem?_eq_getElem (show k<l.length by omega)]
  simp only[Option.getD_some,Bool.and_eq_false_iff,decide_eq_false_iff_not];by_cases c:l[i].fr<l[k].tO
  .right;intro c';exact this ⟨c',c⟩
  .left;exact c
section
variable {d:Dc} {t:Int} {s:List Nt}
theorem yia(notes:List Nt)(t p:Int):sibs notes t p=(ofT notes t).filter λn=>decide (n.par=p):=by
 unfold sibs ofT
 rw[List.filter_filter]
 congr 1;funext n;rw[Bool.and_comm]
theorem zfn(H:s.Perm (ofT d.notes t))(p:Int):(s.filter λn=>decide (n.par=p)).Perm (sibs d.notes t p):=by
 rw[yia];exact H.filter _
theorem z7o(F:s.Perm (ofT d.notes t))(hs:Srt s)(E:∀ n∈s,n.fr<n.tO):AllP s↔∀ n∈ofT d.notes t,zhf (sibs d.notes t n.par)=false:=by
 constructor
 .intro h n hn
  rw[zz5];refine((zfn F n.par).pairwise_iff λh=>NM.symm h).1 ?_
  rw[List.pairwise_filter,List.pairwise_iff_getElem];intro i j hi K H J h2;simp at J h2
  have:=h i j H K (by rw[zht hi,zht K,J,h2])
  rw[zht hi,zht K] at this;rintro⟨_,b⟩
  omega
 .intro h i j H K G
  have hi:i<s.length:=by omega
  have J:=h (gN s i) (F.mem_iff.1 (zgh hi));rw[zz5] at J;have h2:=((zfn F (gN s i).par).pairwise_iff λh=>NM.symm h).2 J
  rw[List.pairwise_filter,List.pairwise_iff_getElem] at h2;have L:=h2 i j hi K H (by rw[zht hi];simp) (by rw[<-zht K,<-G];simp)
  rw[<-zht hi,<-zht K] at L;have a:=hs.fr i j H K G;have b:=E _ (zgh K);have c:¬(gN s j).fr<(gN s i).tO:=λe=>L ⟨by omega,e⟩
  omega
end
end Go.V.Doc
namespace Go.V.Doc
open Go Go.Proofs
section
variable {d:Dc} {t:Int} {s:List Nt}
def gapB(notes:List Nt)(s:List Nt)(i:Nat):Bool:=
 (zb6 s i && !decide ((gN s i).fr=(getN notes (gN s i).par).1.fr)) || (!zb6 s i && !decide ((gN s (i-1)).tO=(gN s i).fr)) || (lastB s i && !decide ((gN s i).tO=(getN notes (gN s i).par).1.tO))
theorem zsm:∀ i,∃ j,j<=i/\(gN s j).par=(gN s i).par/\zb6 s j=true
 |0=>⟨0,by omega,rfl,zjv.2 (.inl rfl)⟩
 |i+1=>by
  cases h:zb6 s (i+1) with
  |true=>exact⟨i+1,by omega,rfl,h⟩
  |false=>
   obtain⟨_,G⟩:=ze7.1 h;obtain⟨j,F,h2,E⟩:=zsm i;have H:(gN s i).par=(gN s (i+1)).par:=G
   exact⟨j,by omega,h2.trans H,E⟩
theorem zxm(H:s.Perm (ofT d.notes t)){p:Int}{m:Nt}:m∈sibs d.notes t p↔∃ j,j<s.length/\(gN s j).par=p/\gN s j=m:=by
 rw[<-(zfn H p).mem_iff,List.mem_filter]
 constructor
 .rintro⟨G,h2⟩
  obtain⟨j,F,e⟩:=List.mem_iff_getElem.1 G;rw[<-zht F] at e;exact⟨j,F,by rw[e];simpa using h2,e⟩
 .rintro⟨j,F,G,rfl⟩
  exact⟨zgh F,by simpa using G⟩
structure Wit(notes s:List Nt):Prop where
 right:∀ n∈s,zca n.fr n.tO=true
 prt:∀ n∈s,zca (getN notes n.par).1.fr (getN notes n.par).1.tO=true
 lo:∀ n∈s,(getN notes n.par).1.fr<=n.fr
 hi:∀ n∈s,n.tO<=(getN notes n.par).1.tO
theorem yln(hp:s.Perm (ofT d.notes t))(hs:Srt s)(ha:AllP s)(hw:Wit d.notes s):
  (∀ i,i<s.length->gapB d.notes s i=false)↔∀ n∈ofT d.notes t,ze6 (spansOf (sibs d.notes t n.par)) ⟨(getN d.notes n.par).1.fr,(getN d.notes n.par).1.tO⟩=true:=by
 have L:∀ n∈s,0<=n.fr/\n.fr<n.tO/\n.tO<=86400000:=λn hn=>by have:=hw.right n hn;simpa only [zca,Bool.and_eq_true,decide_eq_true_eq,and_assoc] using this
 constructor
 .intro h n hn
  have M:n∈s:=hp.mem_iff.2 hn
  obtain⟨i0,A,e0⟩:=List.mem_iff_getElem.1 M;rw[<-zht A] at e0;subst e0;rw[zsl];refine⟨hw.prt _ M,λv B hv2=>?_⟩
  simp only at B hv2
  have up:∀ k i,s.length-i<=k->i<s.length->(gN s i).par=(gN s i0).par->(gN s i).fr<=v->∃ j,j<s.length/\(gN s j).par=(gN s i0).par/\(gN s j).fr<=v/\v<(gN s j).tO:=by
   intro k;induction k with
   |zero=>intro i h1 h2;omega
   |succ k ih=>
    intro i h1 h2 h3 h4;by_cases h5:v<(gN s i).tO
    .exact⟨i,h2,h3,h4,h5⟩
    have hg:=h i h2;simp only[gapB,Bool.or_eq_false_iff,Bool.and_eq_false_iff,Bool.not_eq_false',decide_eq_true_eq] at hg;have hl:lastB s i=false:=by
     rcases hg.2 with e | e
     .exact e
     .rw[h3] at e;omega
    rw[<-Bool.not_eq_true,z7n,not_or,Classical.not_not] at hl;have O:i+1<s.length:=by omega
    have hf:zb6 s (i+1)=false:=ze7.2 ⟨by omega,by simpa using hl.2.symm⟩
    have Q:=h (i+1) O;simp only[gapB,Bool.or_eq_false_iff,Bool.and_eq_false_iff,Bool.not_eq_false',decide_eq_true_eq,hf] at Q;have N:(gN s i).tO=(gN s (i+1)).fr:=by
     rcases Q.1.2 with e | e
     .cases e
     .simpa using e
    exact ih (i+1) (by omega) O (hl.2.trans h3) (by omega)
  obtain⟨j,hj,H,C⟩:=zsm (s:=s) i0;have T:j<s.length:=by omega
  have V:=h j T;simp only[gapB,Bool.or_eq_false_iff,Bool.and_eq_false_iff,Bool.not_eq_false',decide_eq_true_eq,C] at V;have P:(gN s j).fr=(getN d.notes (gN s i0).par).1.fr:=by
   rcases V.1.1 with e | e
   .cases e
   .rw[H] at e;exact e
  obtain⟨y,hy,I,F,E⟩:=up _ j (Nat.le_refl _) T H (by omega)
  exact⟨⟨(gN s y).fr,(gN s y).tO⟩,List.mem_map.2 ⟨gN s y,(zxm hp).2 ⟨y,hy,I,rfl⟩,rfl⟩,hw.right _ (zgh hy),F,E⟩
 .intro h i hi
  have hc:=zsl.1 (h _ (hp.mem_iff.1 (zgh hi)));have pt:=hw.prt _ (zgh hi);have cov:∀ v,(getN d.notes (gN s i).par).1.fr<=v->v<(getN d.notes (gN s i).par).1.tO->∃ j,j<s.length/\(gN s j).par=(gN s i).par/\(gN s j).fr<=v/\v<(gN s j).tO:=by
   intro v h1 h2;obtain⟨y,hy,_,F,E⟩:=hc.2 v h1 h2;obtain⟨m,hm,rfl⟩:=List.mem_map.1 hy;obtain⟨j,hj,H,rfl⟩:=(zxm hp).1 hm;exact⟨j,hj,H,F,E⟩
  have lo:=hw.lo _ (zgh hi);have S:=hw.hi _ (zgh hi);have W:=L _ (zgh hi);generalize hP:(getN d.notes (gN s i).par).1.fr=a at *;generalize hQ:(getN d.notes (gN s i).par).1.tO=b at *;have pt':a<b:=by simp only[zca,Bool.and_eq_true,decide_eq_true_eq] at pt;omega
  simp only[gapB,Bool.or_eq_false_iff,Bool.and_eq_false_iff,Bool.not_eq_false',decide_eq_true_eq,hP,hQ];refine⟨⟨?_,?_⟩,?_⟩
  .cases hf:zb6 s i with
   |false=>exact .inl rfl
   |true=>
    right
    apply Classical.byContradiction
    intro X;obtain⟨j,hj,H,Y,Z⟩:=cov a (Int.le_refl _) pt';rcases Nat.lt_trichotomy j i with G | rfl | G
    .rcases zjv.1 hf with e | e
     .omega
     .apply e
      rcases Nat.eq_or_lt_of_le (show j<=i-1 by omega) with e' | e'
      .rw[<-e',H]
      .have x1:=hs.par j (i-1) e' (by omega)
       have x2:=hs.par (i-1) i (by omega) hi
       omega
    .omega
    .have:=hs.fr i j G hj H.symm
     omega
  .cases hf:zb6 s i with
   |true=>exact .inl rfl
   |false=>
    right
    obtain⟨h0,K⟩:=ze7.1 hf;have J:i-1<s.length:=by omega
    have h1:=ha (i-1) i (by omega) hi K
    apply Classical.byContradiction
    intro X;have r1:=L _ (zgh J);have l1:=hw.lo _ (zgh J);rw[K,hP] at l1;obtain⟨j,hj,H,Y,Z⟩:=cov (gN s (i-1)).tO (by omega) (by omega)
    rcases Nat.lt_trichotomy j (i-1) with G | e | G
    .have:=ha j (i-1) G J (H.trans K.symm)
     omega
    .subst e;omega
    .rcases Nat.eq_or_lt_of_le (show i<=j by omega) with e' | e'
     .subst e';omega
     .have:=hs.fr i j e' hj H.symm
      omega
  .cases hf:lastB s i with
   |false=>exact .inl rfl
   |true=>
    right
    apply Classical.byContradiction
    intro X;obtain⟨j,hj,H,Y,Z⟩:=cov (gN s i).tO (by omega) (by omega)
    rcases Nat.lt_trichotomy j i with G | rfl | G
    .have:=ha j i G hi H
     omega
    .omega
    .rcases z7n.1 hf with e | e
     .omega
     .apply e
      rcases Nat.eq_or_lt_of_le (show i+1<=j from G) with e' | e'
      .rw[e',H]
      .have x1:=hs.par (i+1) j e' hj
       have x2:=hs.par i (i+1) (by omega) (by omega)
       omega
def posN(s:List Nt)(i:Nat):Nat:=((s.take i).filter λn=>decide (n.par=(gN s i).par)).length
theorem zna(hs:Srt s){i:Nat}(hi:i<s.length)(h:zb6 s i=true):posN s i=0:=by
 unfold posN
 rw[List.length_eq_zero_iff,List.filter_eq_nil_iff]
 intro x F E
 obtain⟨j,K,rfl⟩:=List.mem_take_iff_getElem.1 F
 have H:j<s.length:=by omega
 have G:j<i:=by omega
 simp only[decide_eq_true_eq] at E
 rw[<-zht H] at E
 rcases zjv.1 h with e | e
 .omega
 .apply e
  rcases Nat.eq_or_lt_of_le (show j<=i-1 by omega) with e' | e'
  .rw[<-e',E]
  .have x1:=hs.par j (i-1) e' (by omega)
   have x2:=hs.par (i-1) i (by omega) hi
   omega
theorem zxn{i:Nat}(hi:i<s.length)(h:zb6 s i=false):posN s i=posN s (i-1)+1:=by
 obtain⟨G,F⟩:=ze7.1 h
 obtain⟨j,rfl⟩:∃ j,i=j+1:=⟨i-1,by omega⟩
 have E:j<s.length:=by omega
 have H:(gN s j).par=(gN s (j+1)).par:=F
 unfold posN
 rw[take_snoc' E,List.filter_append,List.length_append]
 have:[s[j]].filter (λn=>decide (n.par=(gN s (j+1)).par))=[s[j]]:=by
  rw[List.filter_cons_of_pos (by rw[<-zht E];simpa using H)];rfl
 rw[this]
 simp only[Nat.add_sub_cancel,List.length_singleton,H]
theorem pos_at{i:Nat}(hi:i<s.length):(s.filter λn=>decide (n.par=(gN s i).par))[posN s i]?=some (gN s i):=by
 have:=zz3 (q:=λn=>decide (n.par=(gN s i).par)) hi (by rw[<-zht hi];simp)
 rw[<-zht hi] at this
 exact this
theorem z7p{p:Int}{j:Nat}(h:j<(s.filter λn=>decide (n.par=p)).length):∃ i,i<s.length/\(gN s i).par=p/\posN s i=j:=by
 obtain⟨i,hi,G,h2⟩:=zme h
 have H:(gN s i).par=p:=by rw[zht hi];simpa using G
 exact⟨i,hi,H,by unfold posN;rw[H];exact h2⟩
def rkB(s:List Nt)(i:Nat):Bool:=(zb6 s i && !decide ((gN s i).rank=0)) || (!zb6 s i && !decide ((gN s i).rank=IntKind.i64.wrap ((gN s (i-1)).rank+1)))
theorem ynz(hs:Srt s)(G:s.length<2^40):(∀ i,i<s.length->rkB s i=false)↔∀ i,i<s.length->(gN s i).rank=posN s i:=by
 have F:∀ i,posN s i<=s.length:=by
  intro i;unfold posN;exact Nat.le_trans (List.length_filter_le _ _) (by rw[List.length_take];omega)
 constructor
 .intro h i
  induction i with
  |zero=>
   intro hi;have E:zb6 s 0=true:=zjv.2 (.inl rfl)
   have:=h 0 hi
   rw[zna hs hi E];simp[rkB,E] at this;exact this
  |succ j ih=>
   intro hi;have:=h (j+1) hi
   cases E:zb6 s (j+1) with
   |true=>
    rw[zna hs hi E];simp[rkB,E] at this;exact this
   |false=>
    have e:=ih (by omega)
    have H:=F j;have e2:=zxn hi E;simp only[Nat.add_sub_cancel] at e2;simp[rkB,E] at this;rw[this,e,e2,wrap64 (by omega)];push_cast;rfl
 .intro h i hi
  cases E:zb6 s i with
  |true=>
   have:=h i hi
   rw[zna hs hi E] at this;simp[rkB,E,this]
  |false=>
   have e2:=zxn hi E;have e:=h i hi;have e1:=h (i-1) (by omega)
   have H:=F (i-1);simp only[rkB,E,Bool.false_and,Bool.false_or,Bool.not_false,Bool.true_and,Bool.not_eq_false',decide_eq_true_eq];rw[e,e1,e2,wrap64 (by omega)];push_cast;rfl
theorem yib(M:s.Perm (ofT d.notes t))(hs:Srt s)(O:s.length<2^40)(Q:∀ n∈s,n.fr=0):
  (∀ i,i<s.length->rkB s i=false)↔∀ n∈ofT d.notes t,zrk (sibs d.notes t n.par)=true:=by
 rw[ynz hs O]
 constructor
 .intro h n T
  rw[zk0];intro m V;rw[<-(zfn M n.par).length_eq] at V;obtain⟨i,hi,X,h2⟩:=z7p V;rw[List.any_eq_true];exact⟨gN s i,(zxm M).2 ⟨i,hi,X,rfl⟩,by rw[decide_eq_true_eq,h i hi,h2]⟩
 .intro h i hi
  have Y:=zk0.1 (h _ (M.mem_iff.1 (zgh hi)));have H:=(zfn M (gN s i).par).length_eq;have E:((s.filter λn=>decide (n.par=(gN s i).par)).map (·.rank)).Pairwise (·<=·):=by
   rw[List.pairwise_map,List.pairwise_filter,List.pairwise_iff_getElem];intro a b Z A K X h2;simp only[decide_eq_true_eq] at X h2;rw[<-zht Z] at X ⊢;rw[<-zht A] at h2 ⊢;exact hs.rank a b K A (X.trans h2.symm) (by rw[Q _ (zgh Z),Q _ (zgh A)])
  have J:=yks _ 0 E (λn T=>by
   rw[List.length_map,H] at T;have:=Y n T
   rw[List.any_eq_true] at this;obtain⟨x,B,G⟩:=this;simp only[decide_eq_true_eq] at G;rw[List.mem_map];exact⟨x,(zfn M _).mem_iff.2 B,by rw[G];omega⟩)
  have F:=pos_at hi;have L:posN s i<(s.filter λn=>decide (n.par=(gN s i).par)).length:=(List.getElem?_eq_some_iff.1 F).1
  have:=J (posN s i) (by rw[List.length_map];exact L)
  rw[List.getElem?_map,F] at this;simp at this
  exact this
theorem ydg(G:s.Perm (ofT d.notes t))(hs:Srt s):(∀ i,i<s.length->zb6 s i=true)↔∀ n∈ofT d.notes t,¬1<(sibs d.notes t n.par).length:=by
 constructor
 .intro h n F E
  rw[<-(zfn G n.par).length_eq] at E;obtain⟨i,hi,_,h2⟩:=z7p E;rw[zna hs hi (h i hi)] at h2;cases h2
 .intro h i hi
  cases K:zb6 s i with
  |true=>rfl
  |false=>
   exfalso
   apply h _ (G.mem_iff.1 (zgh hi))
   have e2:=zxn hi K;have H:=(List.getElem?_eq_some_iff.1 (pos_at hi)).1;rw[(zfn G (gN s i).par).length_eq] at H;omega
end
end Go.V.Doc
namespace Go.V.Doc
open Go Go.Proofs
theorem zo3(d:Dc):∀ (m i:Nat),i+m=d.notes.length->zdd d m i=0->∀ j,i<=j->j<d.notes.length->zgg d j=0
 |0,i,h,_,j,H,h2=>by omega
 |m+1,i,h,G,j,H,h2=>by
  rw[zo0,if_pos (by omega)] at G
  by_cases F:zgg d i=0
  .rw[if_pos F] at G
   rcases Nat.eq_or_lt_of_le H with e | e
   .rw[<-e];exact F
   .exact zo3 d m (i+1) (by omega) G j e h2
  .rw[if_neg F] at G;exact absurd G F
theorem zo4(l:List Tir):∀ (m i:Nat),i+m=l.length->zjs l m i=0->∀ j,i<=j->(h:j<l.length)->oneE (l.take j) l[j]=0
 |0,i,h,_,j,H,h2=>by omega
 |m+1,i,h,G,j,H,h2=>by
  simp only[zjs] at G;rw[dif_pos (by omega)] at G
  by_cases F:oneE (l.take i) (l[i]'(by omega))=0
  .rw[if_pos F] at G
   rcases Nat.eq_or_lt_of_le H with e | e
   .subst e;exact F
   .exact zo4 l m (i+1) (by omega) G j e h2
  .rw[if_neg F] at G;exact absurd G F
structure Good(d:Dc):Prop where
 tiers:∀ j,(h:j<d.tiers.length)->oneE (d.tiers.take j) d.tiers[j]=0
 notes:∀ j,j<d.notes.length->zgg d j=0
theorem zsn{l:List Tir}{t:Tir}(h:oneE l t=0)(H:t.kind≠0):0<=t.par/\t.par<l.length/\(alK t.kind=true->alK (l[t.par.toNat]?.getD default).kind=true):=by
 unfold oneE at h
 split at h
 .cases h
 .split at h
  .cases h
  .split at h
   .cases h
   .split at h
    .cases h
    .split at h
     .cases h
     .split at h
      .cases h
      .rename_i hp
       split at h
       .cases h
       .rename_i ha
        refine⟨by omega,by omega,λe=>?_⟩
        cases G:alK (l[t.par.toNat]?.getD default).kind with
        |true=>rfl
        |false=>exact absurd ⟨e,G⟩ ha
structure NoteOk(d:Dc)(n:Nt):Prop where
 t0:0<=n.tier
 t1:n.tier<d.tiers.length
 place:zqd d n=0
theorem zso{d:Dc}(h:Good d){n:Nt}(H:n∈d.notes):NoteOk d n:=by
 obtain⟨i,hi,rfl⟩:=List.mem_iff_getElem.1 H
 have:=h.notes i hi
 simp only[zgg,List.getElem?_eq_getElem hi,Option.getD_some] at this
 split at this
 .cases this
 .split at this
  .cases this
  .split at this
   .cases this
   .rename_i ht
    rw[zmc] at this;split at this
    .exact⟨by omega,by omega,this⟩
    .rename_i hx;exact absurd this hx
theorem zjw{d:Dc}{n:Nt}(h:zqd d n=0):((zci d n.tier).kind=0->n.par=0)/\((zci d n.tier).kind≠0->(getN d.notes n.par).2=true/\(getN d.notes n.par).1.tier=(zci d n.tier).par) /\
  zgf d n (getN d.notes n.par).1=true:=by
 unfold zqd at h
 by_cases H:(zci d n.tier).kind=0
 .rw[if_pos H] at h
  by_cases G:n.par=0
  .rw[if_pos (by simpa using G)] at h
   by_cases F:zgf d n (getN d.notes n.par).1=true
   .exact⟨λ_=>G,λe=>absurd H e,F⟩
   .rw[if_neg F] at h;cases h
  .rw[if_neg (by simpa using G)] at h;cases h
 .rw[if_neg H] at h
  by_cases E:((getN d.notes n.par).2&&decide ((getN d.notes n.par).1.tier=(zci d n.tier).par))=true
  .rw[if_pos E] at h
   by_cases F:zgf d n (getN d.notes n.par).1=true
   .rw[Bool.and_eq_true,decide_eq_true_eq] at E
    exact⟨λe=>absurd e H,λ_=>E,F⟩
   .rw[if_neg F] at h;cases h
  .rw[if_neg E] at h;cases h
theorem ydh{d:Dc}{i:Int}(H:0<=i)(G:i<d.tiers.length):alT d.tiers i=alK (zci d i).kind:=by
 unfold alT zci
 rw[decide_eq_true H,decide_eq_true G];rfl
theorem zxo{d:Dc}{n:Nt}(h:NoteOk d n)(H:alK (zci d n.tier).kind=true):zca n.fr n.tO=true:=by
 have G:=(zjw h.place).2.2
 unfold zgf at G
 rw[if_pos (by rw[ydh h.t0 h.t1];exact H),Bool.and_eq_true] at G
 exact G.1
theorem ylo{d:Dc}{n:Nt}(h:NoteOk d n)(H:alK (zci d n.tier).kind=false):n.fr=0/\n.tO=0:=by
 have G:=(zjw h.place).2.2
 unfold zgf at G
 rw[if_neg (by rw[ydh h.t0 h.t1,H];simp),Bool.and_eq_true,decide_eq_true_eq,decide_eq_true_eq] at G
 exact G
theorem zf3{l:List Nt}{id:Int}(h:(getN l id).2=true):(getN l id).1∈l/\(getN l id).1.id=id:=by
 unfold getN at h ⊢
 cases H:l.find? λn=>decide (n.id=id) with
 |none=>rw[H] at h;cases h
 |some n=>
  rw[H] at h;exact⟨List.mem_of_find?_eq_some H,by simpa using List.find?_some H⟩
theorem yn0{d:Dc}(L:Good d){n:Nt}(h:NoteOk d n)(M:(zci d n.tier).kind≠0)(O:alK (zci d n.tier).kind=true):
  zca (getN d.notes n.par).1.fr (getN d.notes n.par).1.tO=true/\(getN d.notes n.par).1.fr<=n.fr/\n.tO<=(getN d.notes n.par).1.tO:=by
 obtain⟨_,Q,T⟩:=zjw h.place
 obtain⟨E,G⟩:=Q M
 have V:=zf3 E
 have K:=zso L V.1
 obtain⟨k,J⟩:∃ k:Nat,n.tier=k:=⟨n.tier.toNat,by have:=h.t0;omega⟩
 have F:k<d.tiers.length:=by have:=h.t1;omega
 have et:zci d n.tier=d.tiers[k]:=by rw[J];simp[zci,List.getElem?_eq_getElem F]
 rw[et] at M O G
 obtain⟨q1,q2,q3⟩:=zsn (L.tiers k F) M
 have H:(d.tiers.take k).length=k:=by rw[List.length_take];omega
 rw[H] at q2
 have q4:=q3 O
 have e2:(d.tiers.take k)[(d.tiers[k]).par.toNat]?.getD default=zci d (d.tiers[k]).par:=by
  unfold zci;rw[List.getElem?_take,if_pos (by omega)]
 rw[e2] at q4
 refine⟨zxo K (by rw[G];exact q4),?_⟩
 unfold zgf at T
 rw[if_pos (by rw[ydh h.t0 h.t1,et];exact O),et,if_neg M,Bool.and_eq_true,Bool.and_eq_true,decide_eq_true_eq,decide_eq_true_eq] at T
 exact T.2
theorem zz6{n:Nat}{f:Nat->Bool}:(List.range' 0 n).any f=false↔∀ i,i<n->f i=false:=by
 rw[List.any_eq_false]
 constructor
 .intro h i hi
  have:=h i (by rw[List.mem_range'];exact⟨i,hi,by omega⟩)
  simpa using this
 .intro h i hi
  rw[List.mem_range'] at hi;obtain⟨j,H,rfl⟩:=hi;simpa using h _ (by omega)
theorem zxp{α:Type}{l:List α}{f:α->Bool}:l.any f=false↔∀ x∈l,f x=false:=by
 rw[List.any_eq_false]
 exact⟨λh x H=>by simpa using h x H,λh x H=>by simpa using h x H⟩
theorem z7q{a b:Bool}(h:a=false↔b=false):a=b:=by
 cases a <;> cases b <;> simp_all
theorem ylp(d:Dc)(L:Good d)(M:d.notes.length<=300)(t:Nat)(O:t<d.tiers.length):yc5 d t=terE d t:=by
 rw[yh9,yll]
 have Q:=z94 (ofT d.notes t)
 have hs:=ynx (ofT d.notes t)
 have T:(zfm (ofT d.notes t)).length<2^40:=by
  rw[zju];have:(ofT d.notes t).length<=d.notes.length:=List.length_filter_le _ _
  omega
 have H:∀ n∈zfm (ofT d.notes t),NoteOk d n/\n.tier=t:=by
  intro n M;have V:=Q.mem_iff.1 M;unfold ofT at V;rw[List.mem_filter] at V;exact⟨zso L V.1,by simpa using V.2⟩
 generalize zfm (ofT d.notes t)=s at *
 generalize G:(zci d (t:Int)).kind=kd
 have K:(List.range' 0 s.length).any (ovB kd s)=(ofT d.notes t).any (ovR d t kd):=by
  apply z7q
  rw[zz6,zxp];cases X:alK kd with
  |false=>simp[ovB,ovR,X]
  |true=>
   have Y:∀ n∈s,n.fr<n.tO:=by
    intro n M;obtain⟨V,h2⟩:=H n M;have:=zxo V (by rw[h2,G];exact X)
    simp only[zca,Bool.and_eq_true,decide_eq_true_eq] at this;omega
   simp only[ovB,ovR,X,Bool.true_and];rw[<-z7o Q hs Y];exact⟨yny hs,ylm⟩
 rw[K]
 cases Z:(ofT d.notes t).any (ovR d t kd) with
 |true=>rfl
 |false=>
  have F:(List.range' 0 s.length).any (badB d.notes kd s)=(ofT d.notes t).any (badR d t kd):=by
   apply z7q
   rw[zz6,zxp];by_cases k1:kd=1
   .subst k1
    have X:alK 1=true:=rfl
    have Y:∀ n∈s,zca n.fr n.tO=true:=λn M=>by
     obtain⟨V,h2⟩:=H n M;exact zxo V (by rw[h2,G];exact X)
    have J:∀ n∈s,n.fr<n.tO:=λn M=>by
     have:=Y n M
     simp only[zca,Bool.and_eq_true,decide_eq_true_eq] at this;omega
    have E:AllP s:=by
     rw[z7o Q hs J];intro n M;have:=zxp.1 Z n M
     simpa[ovR,X] using this
    have A:Wit d.notes s:=by
     have w:=λn (M:n∈s)=>yn0 L (H n M).1 (by rw[(H n M).2,G];decide) (by rw[(H n M).2,G];exact X)
     exact⟨Y,λn M=>(w n M).1,λn M=>(w n M).2.1,λn M=>(w n M).2.2⟩
    have:=yln Q hs E A
    have e1:∀ i,badB d.notes 1 s i=gapB d.notes s i:=λi=>by simp[badB,gapB]
    have e2:∀ n,badR d t 1 n = !ze6 (spansOf (sibs d.notes t n.par)) ⟨(getN d.notes n.par).1.fr,(getN d.notes n.par).1.tO⟩:=λn=>by simp[badR]
    simp only[e1,e2,Bool.not_eq_false'];exact this
   by_cases k3:kd=3
   .subst k3
    have X:alK 3=false:=rfl
    have:=yib Q hs T λn M=>(ylo (H n M).1 (by rw[(H n M).2,G];exact X)).1
    have e1:∀ i,badB d.notes 3 s i=rkB s i:=λi=>by simp[badB,rkB]
    have e2:∀ n,badR d t 3 n = !zrk (sibs d.notes t n.par):=λn=>by simp[badR]
    simp only[e1,e2,Bool.not_eq_false'];exact this
   by_cases k4:kd=4
   .subst k4
    have:=ydg Q hs
    have e1:∀ i,badB d.notes 4 s i = !zb6 s i:=λi=>by simp[badB]
    have e2:∀ n,badR d t 4 n=decide (1<(sibs d.notes t n.par).length):=λn=>by simp[badR]
    simp only[e1,e2,Bool.not_eq_false',decide_eq_false_iff_not];exact this
   simp[badB,badR,k1,k3,k4]
  rw[F]
theorem z7r(d:Dc)(H:Good d)(G:d.notes.length<=300):∀ (m i:Nat),i+m=d.tiers.length->zxk d m i=zhs d m i
 |0,i,_=>rfl
 |m+1,i,h=>by
  simp only[zxk,zhs];have hi:i<d.tiers.length:=by omega
  rw[if_pos hi,if_pos hi,ylp d H G i hi,z7r d H G m (i+1) (by omega)]
theorem z7s(d:Dc):yc6 d=refE d:=by
 unfold yc6 refE
 split
 .rfl
 .rename_i F
  split
  .rfl
  .split
   .rfl
   .rename_i h3
    split
    .rfl
    .rename_i E
     have H:zhq d.tiers=0:=by simpa using F
     have G:zdd d d.notes.length 0=0:=by simpa using E
     unfold zhq at H;split at H
     .cases H
     .exact z7r d ⟨λj K=>zo4 _ _ _ (by omega) H j (by omega) K,λj K=>zo3 d _ _ (by omega) G j (by omega) K⟩ (by omega) _ _ (by omega)
structure Nok(d:Dc)(n:Nt):Prop where
 lo:1<=n.id
 hi:n.id<=1099511627776
 t0:0<=n.tier
 t1:n.tier<d.tiers.length
 e:yc3 d n=0
structure Rgt(d:Dc):Prop where
 tiers:zhq d.tiers=0
 len:0<=d.len/\d.len<=86400000
 few:d.notes.length<=300
 nok:∀ n∈d.notes,Nok d n
 inc:d.notes.Pairwise λa b=>a.id<b.id
 ter:∀ t:Nat,t<d.tiers.length->terE d t=0
theorem z7t(d:Dc):∀ (m i:Nat),i+m=d.notes.length->(∀ j,i<=j->j<d.notes.length->zgg d j=0)->zdd d m i=0
 |0,i,h,_=>rfl
 |m+1,i,h,H=>by
  rw[zo0,if_pos (by omega),if_pos (H i (Nat.le_refl _) (by omega))]
  exact z7t d m (i+1) (by omega) λj G h2=>H j (by omega) h2
theorem zz7(d:Dc):∀ (m i:Nat),i+m=d.tiers.length->zhs d m i=0->∀ j:Nat,i<=j->j<d.tiers.length->terE d j=0
 |0,i,h,_,j,H,h2=>by omega
 |m+1,i,h,G,j,H,h2=>by
  simp only[zhs] at G;rw[if_pos (by omega)] at G
  by_cases F:terE d i=0
  .rw[if_pos F] at G
   rcases Nat.eq_or_lt_of_le H with e | e
   .rw[<-e];exact F
   .exact zz7 d m (i+1) (by omega) G j e h2
  .rw[if_neg F] at G;exact absurd G F
theorem ydi(d:Dc):∀ (m i:Nat),i+m=d.tiers.length->(∀ j:Nat,i<=j->j<d.tiers.length->terE d j=0)->zhs d m i=0
 |0,i,h,_=>rfl
 |m+1,i,h,H=>by
  simp only[zhs];rw[if_pos (by omega),if_pos (H i (Nat.le_refl _) (by omega))]
  exact ydi d m (i+1) (by omega) λj G h2=>H j (by omega) h2
theorem zk1{d:Dc}{i:Nat}(hi:i<d.notes.length):zgg d i=0↔Nok d d.notes[i]/\(i≠0->(d.notes[i-1]?.getD default).id<d.notes[i].id):=by
 simp only[zgg,List.getElem?_eq_getElem hi,Option.getD_some]
 constructor
 .intro h
  split at h
  .cases h
  .split at h
   .cases h
   .split at h
    .cases h
    .exact⟨⟨by omega,by omega,by omega,by omega,h⟩,λh0=>by omega⟩
 .rintro⟨⟨H,h2,G,F,E⟩,K⟩
  rw[if_neg (by omega),if_neg (by rintro⟨a,b⟩;have:=K a;omega),if_neg (by omega)]
  exact E
theorem zsp{d:Dc}:(∀ i,i<d.notes.length->zgg d i=0)↔(∀ n∈d.notes,Nok d n)/\d.notes.Pairwise λa b=>a.id<b.id:=by
 constructor
 .intro h
  refine⟨λn hn=>?_,?_⟩
  .obtain⟨i,hi,rfl⟩:=List.mem_iff_getElem.1 hn
   exact((zk1 hi).1 (h i hi)).1
  .rw[List.pairwise_iff_getElem]
   have key:∀ (k i:Nat) (G:i+k+1<d.notes.length),(d.notes[i]'(by omega)).id<(d.notes[i+k+1]'G).id:=by
    intro k;induction k with
    |zero=>
     intro i G;have:=((zk1 G).1 (h _ G)).2 (by omega)
     rw[Nat.add_sub_cancel,List.getElem?_eq_getElem (by omega)] at this
     exact this
    |succ k ih=>
     intro i G;have a:=ih i (by omega)
     have:=((zk1 G).1 (h _ G)).2 (by omega)
     rw[Nat.add_sub_cancel,List.getElem?_eq_getElem (by omega)] at this
     exact Int.lt_trans a this
   intro i j hi G H;obtain⟨k,rfl⟩:∃ k,j=i+k+1:=⟨j-i-1,by omega⟩
   exact key k i G
 .rintro⟨F,h2⟩ i hi
  rw[zk1 hi];refine⟨F _ (List.getElem_mem hi),λh0=>?_⟩
  rw[List.getElem?_eq_getElem (by omega)]
  exact List.pairwise_iff_getElem.1 h2 (i-1) i (by omega) hi (by omega)
theorem ydj{d:Dc}:yc6 d=0↔Rgt d:=by
 rw[z7s]
 unfold refE
 constructor
 .intro h
  split at h
  .rename_i G;exact absurd h G
  .rename_i G
   split at h
   .cases h
   .split at h
    .cases h
    .split at h
     .rename_i F;exact absurd h F
     .rename_i F
      have H:zdd d d.notes.length 0=0:=by simpa using F
      have E:=zsp.1 λi hi=>zo3 d _ _ (by omega) H i (by omega) hi
      exact⟨by simpa using G,by omega,by omega,E.1,E.2,λt K=>zz7 d _ _ (by omega) h t (by omega) K⟩
 .intro h
  rw[if_neg (by simpa using h.tiers),if_neg (by have:=h.len;omega),if_neg (by have:=h.few;omega)]
  have:=zsp.2 ⟨h.nok,h.inc⟩
  rw[z7t d _ _ (by omega) λj _ hj=>this j hj]
  rw[if_neg (by simp)]
  exact ydi d _ _ (by omega) λj _ hj=>h.ter j hj
theorem Rgt.good{d:Dc}(h:Rgt d):Good d:=by
 refine⟨?_,zsp.2 ⟨h.nok,h.inc⟩⟩
 have H:=h.tiers
 unfold zhq at H
 split at H
 .cases H
 .exact λj hj=>zo4 _ _ _ (by omega) H j (by omega) hj
theorem znb{d:Dc}(h:Rgt d){a b:Nt}(H:a∈d.notes)(G:b∈d.notes)(e:a.id=b.id):a=b:=by
 obtain⟨i,hi,rfl⟩:=List.mem_iff_getElem.1 H
 obtain⟨j,F,rfl⟩:=List.mem_iff_getElem.1 G
 have E:=List.pairwise_iff_getElem.1 h.inc
 rcases Nat.lt_trichotomy i j with K | rfl | K
 .have:=E i j hi F K;omega
 .rfl
 .have:=E j i F hi K;omega
theorem zjx{d:Dc}(h:Rgt d){n:Nt}(H:n∈d.notes):getN d.notes n.id=(n,true):=by
 unfold getN
 cases G:d.notes.find? λm=>decide (m.id=n.id) with
 |none=>rw[List.find?_eq_none] at G;exact absurd (G n H) (by simp)
 |some m=>
  have F:=List.mem_of_find?_eq_some G;have h2:m.id=n.id:=by simpa using List.find?_some G
  rw[znb h F H h2]
end Go.V.Doc

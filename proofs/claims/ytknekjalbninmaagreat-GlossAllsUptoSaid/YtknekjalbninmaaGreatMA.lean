/- Contracts and plain laws of this seat: part MA. It needs no conditions. -/
import Derived.Test.YtknekjalbninmaaGreatTab
import Derived.Test.YtknekjalbninmaaGreatW1
import Derived.Test.YtknekjalbninmaaGreatB1
import Derived.Test.YtknekjalbninmaaGreatU0
import Derived.Lib.TrimU
import GoSem.Core.Value
import Derived.Test.YtknekjalbninmaaGreatS1
set_option linter.all false
set_option maxHeartbeats 32000000
set_option maxRecDepth 100000
namespace Go.V
open Go Go.Proofs Go.RowKit Tryz
section
variable [Dr] [Ov] {st:St} {Q:DE->St->Prop} {f:Nat} {fn:Func} {c:Code} {α:Type}
def qg:=TF (P:=prog) (c:=c) (Q:=Q) (st:=st) (α:=α) mixed
def xP(S:Nat->St)(n:Nat):=TF (P:=prog) (c:=c) (Q:=Q) (st:=st) mixed S (λk=>k<=n) (λk=>n-k) 0 (nU n)
theorem jH(m:Nat){id:Nat}{ops:List Oper}(h:XH prog ops st.next (gk prog (Q .normal) (ops.drop m)) (ops.take m) st)(H:yO ops=true:=by rfl)(G:decide (m<ops.length)=true:=by rfl)(F:vF ops m=true:=by rfl)(E:Yw ops m=true:=by rfl)(K:(st.own.map (·.1)).Nodup:=by simp):aT prog (.region id ops.toArray true) Q st:=zt8 mixed m H G F E K h
theorem kh(m:Nat)(vl:List Nat){id:Nat}{ops:List Oper}(h:jc prog ops st.next vl (λstF cS hs=>XC ops (ops.take m) cS.reverse=true/\BV prog (Q .normal) (ops.drop m) {st with next:=st.next+hs.length,af:=vi st.next hs++stF.af,own:=qA st.next hs++st.own}) (ops.take m) st [] [])(H:yO ops=true:=by rfl)(G:Nat.ble m ops.length=true:=by rfl)(F:(Nat.beq m ops.length || vF ops m)=true:=by rfl)(E:XA st.af=true:=by rfl):aT prog (.region id ops.toArray true) Q st:=zt5 mixed m vl H G F E h
end
end Go.V
namespace Go.V
open Go Go.Proofs Tryz
instance:Dr:=⟨false⟩
instance:Ov:=⟨false⟩
@[simp] theorem zuh(n:Int)(k:ah->Prop):dP .i64 n k=(aB n/\k (.d (.int .i64 n))):=rfl
@[simp] theorem zui(n:Int)(k:ah->Prop):dP .i32 n k=k (.d (.int .i32 (IntKind.i32.wrap n))):=rfl
@[simp] theorem zum(n:Int)(k:ah->Prop):dP .u8 n k=k (.d (.int .u8 (IntKind.u8.wrap n))):=rfl
@[simp] theorem zuj(n:Int)(k:ah->Prop):dP .u32 n k=k (.d (.int .u32 (IntKind.u32.wrap n))):=rfl
@[simp] theorem zuk(n:Int)(k:ah->Prop):dP .u64 n k=k (.d (.int .u64 (IntKind.u64.wrap n))):=rfl
def int(n:Int):D:=.int .i64 n
def aa(l:List Int):D:=.sl (l.map λn=>[.int .i64 n])
structure bD where
 name:ByteArray
 mb:Int
 deriving DecidableEq
structure bo where
 bg:ByteArray
 bi:List Int
 deriving DecidableEq
structure bb where
 name:ByteArray
 au:List bo
 cA:List (List ByteArray)
 deriving DecidableEq
structure ig where
 mQ:Int
 value:Int
 deriving DecidableEq
structure bK where
 bl:List Int
 dst:List Int
 left:List ig
 right:List ig
 fo:Bool
 ck:Bool
 deriving DecidableEq
structure dN where
 bl:Int
 cU:Int
 dst:Int
 deriving DecidableEq
structure aY where
 az:Int
 aw:List dN
 aS:List Int
 deriving DecidableEq
structure cC where
 xe:ByteArray
 lc:ByteArray
 deriving DecidableEq
structure fu where
 kind:Int
 dst:Int
 deriving DecidableEq
structure Rf where
 cw:Int
 bT:Int
 deriving DecidableEq
structure aP where
 id:Int
 du:List Int
 cU:Int
 cm:List (List Int)
 main:Int
 aL:List cC
 bj:List fu
 lk:List Rf
 deriving DecidableEq
structure aj where
 inv:List bD
 bt:bb
 ba:List bK
 bM:aY
 aM:List aP
 deriving DecidableEq
structure aG where
 entry:Int
 bf:Int
 bu:Int
 deriving DecidableEq
def bD.row(p:bD):List D:=[.str p.name,int p.mb]
def zL(l:List bD):D:=.sl (l.map bD.row)
def bo.row(u:bo):List D:=[.str u.bg,aa u.bi]
def zJ(l:List bo):D:=.sl (l.map bo.row)
def wK(l:List (List ByteArray)):D:=.sl (l.map λr=>[.sl (r.map λs=>[.str s])])
def bb.cells(o:bb):List D:=[.str o.name,zJ o.au,wK o.cA]
def ig.row(c:ig):List D:=[int c.mQ,int c.value]
def xA(l:List ig):D:=.sl (l.map ig.row)
def bK.row(r:bK):List D:=[aa r.bl,aa r.dst,xA r.left,xA r.right,.bool r.fo,.bool r.ck]
def yF(l:List bK):D:=.sl (l.map bK.row)
def dN.row(s:dN):List D:=[int s.bl,int s.cU,int s.dst]
def bk(l:List dN):D:=.sl (l.map dN.row)
def aY.cells(n:aY):List D:=[int n.az,bk n.aw,aa n.aS]
def cC.row(s:cC):List D:=[.str s.xe,.str s.lc]
def zW(l:List cC):D:=.sl (l.map cC.row)
def fu.row(s:fu):List D:=[int s.kind,int s.dst]
def xo(l:List fu):D:=.sl (l.map fu.row)
def Rf.row(s:Rf):List D:=[int s.cw,int s.bT]
def wo(l:List Rf):D:=.sl (l.map Rf.row)
def yk(l:List (List Int)):D:=.sl (l.map λa=>[aa a])
def aP.row(e:aP):List D:=[int e.id,aa e.du,int e.cU,yk e.cm,int e.main,zW e.aL,xo e.bj,wo e.lk]
def zm(l:List aP):D:=.sl (l.map aP.row)
def aj.d(g:aj):D:=.agg [zL g.inv,.str g.bt.name,zJ g.bt.au,wK g.bt.cA,yF g.ba,int g.bM.az,bk g.bM.aw,aa g.bM.aS,zm g.aM]
def aG.row(p:aG):List D:=[int p.entry,int p.bf,int p.bu]
def zh(l:List aG):D:=.sl (l.map aG.row)
def zr(a:List aG):D:=.agg [zh a]
def zG(l:List (List aG)):D:=.sl (l.map λa=>[zh a])
@[simp ↓] theorem zu9(p:Prop):(true = !true->p)=True:=by simp
@[simp ↓] theorem zva(p:Prop):(false = !false->p)=True:=by simp
@[simp ↓] theorem zvb(p:Prop):(true = !false->p)=p:=by simp
@[simp ↓] theorem zvc(p:Prop):(false = !true->p)=p:=by simp
@[simp ↓] theorem zvf(p:Prop):(true=false->p)=True:=by simp
@[simp ↓] theorem zvg(p:Prop):(false=true->p)=True:=by simp
@[simp ↓] theorem zvh(p:Prop):(true=true->p)=p:=by simp
@[simp ↓] theorem zvi(p:Prop):(false=false->p)=p:=by simp
theorem bW{α:Type}{l:List α}{k:Nat}(h:k<l.length):l.take (k+1)=l.take k++[l[k]]:=by
 rw[rT,ac h];rfl
theorem AS(l:List Int)(x:Int)(G:l.length<2^62):aq prog 293 [aa l,int x] (.bool (decide (x∈l))):=by
 refine aF func293 ?_
 simp[f293,aa,int]
 refine cl (λk:Nat=>{n:=17,next:=0,af:=[(0,.d (aa l)),(1,.d (int x)),(7,.d (aa l)),(8,.d (.int .i64 l.length)),(9,.d (.int .i64 k))],own:=[]})
  (λk=>k<=l.length/\x∉l.take k) (λk=>l.length-k) 0 (by simp) (by simp[aa,int]) ?_
 intro k ⟨F,E⟩
 by_cases H:k<l.length
 .have e1:l[k]?=some l[k]:=ac H
  simp+decide[aa,int,H,aB];refine⟨λh=>?_,λh=>⟨by omega,k+1,⟨H,?_⟩,by omega,by omega⟩⟩
  .rw[<-h];exact nF H
  .rw[bW H,nM,Ck];exact⟨E,by simpa using λe=>h e.symm⟩
 .obtain rfl:k=l.length:=by omega
  simp+decide[aa,int];simpa using E
theorem G3(l:List Int)(x:Int)(G:l.length<2^62):aq prog 260 [aa l,int x] (.bool (decide (x∈l))):=by
 refine aF func260 ?_
 simp[f260,aa,int]
 refine cl (λk:Nat=>{n:=18,next:=0,af:=[(0,.d (aa l)),(1,.d (int x)),(7,.d (.int .i64 l.length)),(8,.d (.int .i64 k))],own:=[]})
  (λk=>k<=l.length/\x∉l.take k) (λk=>l.length-k) 0 (by simp) (by simp[aa,int]) ?_
 intro k ⟨F,E⟩
 by_cases H:k<l.length
 .have e1:l[k]?=some l[k]:=ac H
  simp+decide[aa,int,H,aB];refine⟨λh=>?_,λh=>⟨by omega,k+1,⟨H,?_⟩,by omega,by omega⟩⟩
  .rw[<-h];exact nF H
  .rw[bW H,nM,Ck];exact⟨E,by simpa using λe=>h e.symm⟩
 .obtain rfl:k=l.length:=by omega
  simp+decide[aa,int];simpa using E
theorem Eo(a b:List Int)(F:b.length<2^62):aq prog 171 [aa a,aa b] (.bool (decide (a=b))):=by
 refine aF func171 ?_
 simp[f171,aa]
 refine⟨λh e=>h (by rw[e]),λh=>?_⟩
 refine cl (λk:Nat=>{n:=26,next:=0,af:=[(0,.d (aa a)),(1,.d (aa b)),(12,.d (.int .i64 a.length)),(13,.d (.int .i64 k))],own:=[]})
  (λk=>k<=a.length/\a.take k=b.take k) (λk=>a.length-k) 0 (by simp) (by simp[aa]) ?_
 intro k ⟨E,K⟩
 have h:a.length=b.length:=by omega
 by_cases G:k<a.length
 .have e1:a[k]?=some a[k]:=ac G
  have e2:b[k]?=some (b[k]'(by omega)):=ac (by omega)
  have H:k<b.length:=by omega
  simp+decide[aa,G,H,aB];refine⟨λhne e=>hne (by subst e;rfl),λhe=>⟨by omega,k+1,⟨G,?_⟩,by omega,by omega⟩⟩
  rw[bW G,bW H,K,he]
 .obtain rfl:k=a.length:=by omega
  simp+decide[aa];rw[nH,h,nH] at K;exact K
def W7:List Int->List Int->Bool
 |a::l,b::m=>if a=b then W7 l m else decide (a<b)
 | [],_::_=>true
 |_,[]=>false
def xd(inv:List bD)(n:Int):Bool:=decide (1<=n)&&decide (n<=inv.length)
theorem W8(inv:List bD)(n:Int):aq prog 197 [.agg [zL inv],int n] (.bool (xd inv n)):=by
 refine aF func197 ?_
 simp[f197,zL,int,xd]
 omega
theorem Ep(inv:List bD)(n:Int):aq prog 284 [.agg [zL inv],int n] (.bool (xd inv n)):=by
 refine aF func284 ?_
 simp[f284,zL,int,xd]
 omega
theorem Vj(n:Int):aq prog 123 [int n] (.bool false):=by
 refine aF func123 ?_
 simp[f123,int]
def qh(a b:Int):Int:=if a<b then -1 else if b<a then 1 else 0
theorem ZP(a b:Int):aq prog 67 [int a,int b] (int (qh a b)):=by
 refine aF func67 ?_
 simp[f67,int]
 refine zg (Vj a) ?_
 simp
 refine zg (Vj b) ?_
 simp[qh]
 refine⟨λh h'=>by omega,λh=>by omega⟩
def xp(l:List aP)(id:Int):Int:=match l.findIdx? (·.id=id) with
 |some k=>k
 |none=>-1
theorem G4{l:List aP}{id:Int}{k:Nat}(h:k<l.length)(H:∀ e∈l.take k,e.id≠id)(G:l[k].id=id):l.findIdx? (·.id=id)=some k:=by
 rw[oN]
 refine⟨h,by simpa using G,λj hj=>?_⟩
 have:=H l[j] (by rw[oG];exact⟨j,by omega,rfl⟩)
 simpa using this
theorem G5{l:List aP}{id:Int}(H:∀ e∈l,e.id≠id):l.findIdx? (·.id=id)=none:=by
 rw[pj];intro e G;simpa using H e G
theorem kW{α:Type}{p:α->Prop}{l:List α}{k:Nat}(h:k<l.length)(H:∀ e∈l.take k,p e)(G:p l[k]):∀ e∈l.take (k+1),p e:=by
 rw[bW h]
 intro e F
 rcases nM.1 F with F | F
 .exact H e F
 .simp at F;rw[F];exact G
theorem W9(l:List aP)(id:Int)(G:l.length<2^62):aq prog 110 [zm l,int id] (int (xp l id)):=by
 refine aF func110 ?_
 simp[f110,zm,int]
 refine cl (λk:Nat=>{n:=20,next:=0,af:=[(0,.d (zm l)),(1,.d (int id)),(5,.d (.int .i64 k))],own:=[]})
  (λk=>k<=l.length/\∀ e∈l.take k,e.id≠id) (λk=>l.length-k) 0 (by simp) (by simp[zm,int]) ?_
 intro k ⟨F,E⟩
 by_cases H:k<l.length
 .have e1:l[k]?=some l[k]:=ac H
  simp+decide[zm,aP.row,int,H,aB];refine⟨λh=>?_,λh=>⟨by omega,k+1,⟨H,kW H E h⟩,by omega,by omega⟩⟩
  simp[xp,G4 H E h]
 .obtain rfl:k=l.length:=by omega
  simp+decide[zm,int];simp[xp,G5 (by simpa using E)]
theorem G6(l:List aP)(id:Int)(G:l.length<2^62):aq prog 152 [zm l,int id] (int (xp l id)):=by
 refine aF func152 ?_
 simp[f152,zm,int]
 refine cl (λk:Nat=>{n:=20,next:=0,af:=[(0,.d (zm l)),(1,.d (int id)),(5,.d (.int .i64 k))],own:=[]})
  (λk=>k<=l.length/\∀ e∈l.take k,e.id≠id) (λk=>l.length-k) 0 (by simp) (by simp[zm,int]) ?_
 intro k ⟨F,E⟩
 by_cases H:k<l.length
 .have e1:l[k]?=some l[k]:=ac H
  simp+decide[zm,aP.row,int,H,aB];refine⟨λh=>?_,λh=>⟨by omega,k+1,⟨H,kW H E h⟩,by omega,by omega⟩⟩
  simp[xp,G4 H E h]
 .obtain rfl:k=l.length:=by omega
  simp+decide[zm,int];simp[xp,G5 (by simpa using E)]
theorem AU(a b:List aG)(E:b.length<2^62):aq prog 242 [zh a,zh b] (.bool (decide (a=b))):=by
 refine aF func242 ?_
 simp[f242,zh]
 refine⟨λh e=>h (by rw[e]),λh=>?_⟩
 refine cl (λk:Nat=>{n:=26,next:=0,af:=[(0,.d (zh a)),(1,.d (zh b)),(12,.d (.int .i64 a.length)),(13,.d (.int .i64 k))],own:=[]})
  (λk=>k<=a.length/\a.take k=b.take k) (λk=>a.length-k) 0 (by simp) (by simp[zh]) ?_
 intro k ⟨K,J⟩
 have h:a.length=b.length:=by omega
 by_cases G:k<a.length
 .have e1:a[k]?=some a[k]:=ac G
  have e2:b[k]?=some (b[k]'(by omega)):=ac (by omega)
  have H:k<b.length:=by omega
  simp+decide[zh,aG.row,int,G,H,aB];refine⟨λF e=>by subst e;simp at F,λL M h3=>⟨by omega,k+1,⟨G,?_⟩,by omega,by omega⟩⟩
  have O:a[k]=b[k]:=by
   rcases Q:a[k] with⟨x1,x2,x3⟩;rcases T:b[k] with⟨y1,y2,y3⟩;rw[Q,T] at L M h3;simp only at L M h3
   rw[L,M,h3]
  rw[bW G,bW H,J,O]
 .obtain rfl:k=a.length:=by omega
  simp+decide[zh];rw[nH,h,nH] at J;exact J
def jI(inv:List bD)(n:Int)(c:ig):Bool:=xd inv n&&(match inv[n.toNat-1]? with
 |some p=>decide (c.value=wB .and .i64 p.mb c.mQ)
 |none=>false)
theorem AV(inv:List bD)(n:Int)(c:ig)(F:inv.length<2^62):aq prog 291 [.agg [zL inv],int n,.agg c.row] (.bool (jI inv n c)):=by
 refine aF func291 ?_
 simp+decide[f291,int,ig.row]
 refine bw (Ep inv n) ?_
 by_cases hs:xd inv n=true
 .have G:=hs
  simp only[xd,nI,nD] at G;have H:n.toNat-1<inv.length:=by omega
  have e1:inv[n.toNat-1]?=some inv[n.toNat-1]:=ac H
  have e2:¬n<1:=by omega
  simp+decide[zL,hs,H,bD.row,int,aB,jI];omega
 .simp+decide[hs,jI]
def aP.zero:aP:=⟨0,[],0,[],0,[],[],[]⟩
def zF(l:List aP)(id:Int):aP×Bool:=match l.find? (·.id=id) with
 |some e=>(e,true)
 |none=>(aP.zero,false)
theorem AW{l:List aP}{id:Int}{k:Nat}(h:k<l.length)(H:∀ e∈l.take k,e.id≠id)(G:l[k].id=id):l.find? (·.id=id)=some l[k]:=by
 rw[rx]
 refine⟨by simpa using G,k,h,rfl,λj hj=>?_⟩
 have:=H l[j] (by rw[oG];exact⟨j,by omega,rfl⟩)
 simpa using this
theorem AX{l:List aP}{id:Int}(H:∀ e∈l,e.id≠id):l.find? (·.id=id)=none:=by
 rw[ry];intro e G;simpa using H e G
theorem Vk(l:List aP)(id:Int)(G:l.length<2^62):aq prog 47 [zm l,int id] (.bE [.agg (zF l id).1.row,.bool (zF l id).2]):=by
 refine aF func47 ?_
 simp[Tryz.f47,zm,int,Value.oneCell']
 refine cl (λk:Nat=>{n:=25,next:=1,af:=[(0,.d (zm l)),(1,.d (int id)),(4,.bp 0 0),(8,.d (.int .i64 l.length)),(9,.d (.int .i64 k))],own:=[(0,.box 102 [.d (int 0),.aW,.d (int 0),.aW,.d (int 0),.aW,.aW,.aW])]})
  (λk=>k<=l.length/\∀ e∈l.take k,e.id≠id) (λk=>l.length-k) 0 (by simp) (by simp[zm,int]) ?_
 intro k ⟨F,E⟩
 by_cases H:k<l.length
 .have e1:l[k]?=some l[k]:=ac H
  simp+decide[zm,aP.row,int,H,aB];refine⟨λh=>?_,λh=>⟨by omega,k+1,⟨H,kW H E h⟩,by omega,by omega⟩⟩
  simp[zF,AW H E h]
 .obtain rfl:k=l.length:=by omega
  simp+decide[zm,int];simp[zF,AX (by simpa using E),aP.zero,aP.row,int,aa,yk,zW,xo,wo]
theorem AY(a b:List aG)(H:b.length<2^62):aq prog 221 [zr a,zr b] (.bool (decide (a=b))):=by
 refine aF func221 ?_
 simp[f221,zr]
 refine zg (AU a b H) ?_
 simp
def gn(l:List bK):Bool:=l.any λr=>decide (0∈r.dst)
theorem Es{α:Type}{p:α->Bool}{l:List α}{k:Nat}(h:k<l.length)(H:p l[k]=true):l.any p=true:=n_.2 ⟨_,nF h,H⟩
theorem AZ(l:List bK)(G:l.length<2^62)(hs:∀ r∈l,r.dst.length<2^62):aq prog 287 [yF l] (.bool (gn l)):=by
 refine aF func287 ?_
 simp[f287,yF]
 refine cl (λk:Nat=>{n:=15,next:=0,af:=[(5,.d (yF l)),(6,.d (.int .i64 l.length)),(7,.d (.int .i64 k))],own:=[]})
  (λk=>k<=l.length/\∀ r∈l.take k,0∉r.dst) (λk=>l.length-k) 0 (by simp) (by simp[yF]) ?_
 intro k ⟨F,E⟩
 by_cases H:k<l.length
 .have e1:l[k]?=some l[k]:=ac H
  simp+decide[yF,bK.row,H];refine zg (AS l[k].dst 0 (hs _ (nF H))) ?_
  simp+decide[aB];refine⟨λh=>?_,λh=>⟨by omega,k+1,⟨H,kW H E h⟩,by omega,by omega⟩⟩
  exact(Es H (by simpa using h))
 .obtain rfl:k=l.length:=by omega
  simp+decide[yF];simp only[nH] at E;simp only[gn,oB];intro r K;simpa using E r K
def aP.aK(e:aP):List (List Int):=e.du::e.cm
def qp(a b:aG):Bool:=if a.entry=b.entry then (if a.bf=b.bf then decide (a.bu<b.bu) else decide (a.bf<b.bf)) else decide (a.entry<b.entry)
theorem zdg(a b:aG):aq prog 208 [.agg a.row,.agg b.row] (.bool (qp a b)):=by
 refine aF func208 ?_
 simp+decide[f208,aG.row,int,qp]
 exact⟨λh H=>absurd H h,λh=>⟨λh2=>by rw[gt h,ge h2],λh2=>by rw[gt h,gt h2]⟩⟩
def zP:List aG->List aG->Bool
 |a::l,b::m=>if a=b then zP l m else qp a b
 | [],_::_=>true
 |_,[]=>false
theorem zfs{a b:List aG}{k:Nat}(h:k<a.length)(H:k<b.length):zP (a.drop k) (b.drop k)=if a[k]=b[k] then zP (a.drop (k+1)) (b.drop (k+1)) else qp a[k] b[k]:=by
 rw[nY h,nY H];rfl
theorem Et{a b:List aG}{k:Nat}(h:¬(k<a.length/\k<b.length))(H:k<=a.length/\k<=b.length):zP (a.drop k) (b.drop k)=decide (a.length<b.length):=by
 by_cases G:k<b.length
 .obtain rfl:k=a.length:=by omega
  rw[pL,nY G];simp[zP,G]
 .obtain rfl:k=b.length:=by omega
  rw[pL];have:¬a.length<b.length:=by omega
  cases a.drop b.length <;> simp[zP,this]
theorem G7{a b:aG}:a=b↔a.entry=b.entry/\a.bf=b.bf/\a.bu=b.bu:=by
 cases a;cases b;simp
theorem Wa(a b:List aG)(K:a.length<2^62)(J:b.length<2^62):aq prog 168 [zr a,zr b] (.bool (zP a b)):=by
 refine aF func168 ?_
 simp[f168,zr,zh]
 refine cl (λk:Nat=>{n:=49,next:=2,af:=[(2,.bp 0 0),(3,.bp 1 0),(5,.d (.int .i64 k))],own:=[(1,.box 39 [.d (zh b)]),(0,.box 39 [.d (zh a)])]})
  (λk=>k<=a.length/\k<=b.length/\zP a b=zP (a.drop k) (b.drop k)) (λk=>a.length-k) 0 (by simp) (by simp[zh]) ?_
 intro k ⟨L,F,M⟩
 by_cases G:k<a.length
 .by_cases H:k<b.length
  .have e1:a[k]?=some a[k]:=ac G
   have e2:b[k]?=some b[k]:=ac H
   rw[zfs G H] at M;simp+decide[zh,aG.row,int,G,H,aB];refine⟨λh=>?_,λO Q T=>⟨by omega,k+1,⟨G,H,?_⟩,by omega,by omega⟩⟩
   .refine bw (zdg a[k] b[k]) ?_
    have E:¬a[k]=b[k]:=λe=>by rw[G7] at e;obtain⟨q1,q2,q3⟩:=e;simp[q1,q2,q3] at h
    simp+decide[M,ge E]
   .rw[M,gt (G7.2 ⟨O,Q,T⟩)]
  .rw[Et (λh=>H h.2) ⟨L,F⟩] at M
   simp+decide[zh,G,H,M]
 .rw[Et (λh=>G h.1) ⟨L,F⟩] at M
  simp+decide[zh,G,M]
theorem zdh{a b:aG}(h:qp a b=false)(H:qp b a=false):a=b:=by
 rw[G7]
 unfold qp at h H
 by_cases e1:a.entry=b.entry
 .rw[gt e1] at h;rw[gt e1.symm] at H
  by_cases e2:a.bf=b.bf
  .rw[gt e2] at h;rw[gt e2.symm] at H
   simp at h H
   exact⟨e1,e2,by omega⟩
  .rw[ge e2] at h;rw[ge (λe=>e2 e.symm)] at H
   simp at h H;omega
 .rw[ge e1] at h;rw[ge (λe=>e1 e.symm)] at H
  simp at h H;omega
theorem G8:∀ (a:List aG),zP a a=false
 | []=>rfl
 |a::l=>by simp[zP,G8 l]
theorem Eu:∀ {a b:List aG},zP a b=false->zP b a=false->a=b
 | [],[],_,_=>rfl
 | [],_::_,h,_=>by simp[zP] at h
 |_::_,[],_,h=>by simp[zP] at h
 |a::l,b::m,h,H=>by
  simp only[zP] at h H;by_cases e:a=b
  .subst e
   simp at h H
   rw[Eu h H]
  .rw[ge e] at h;rw[ge (λq=>e q.symm)] at H
   exact absurd (zdh h H) e
theorem zft(a b:List aG):(!zP a b && !zP b a)=decide (a=b):=by
 by_cases e:a=b
 .subst e;simp[G8]
 .rw[pH e]
  cases h:zP a b <;> cases H:zP b a <;> simp
  exact e (Eu h H)
theorem ziu(a b:List aG)(H:a.length<2^62)(G:b.length<2^62):aq prog 247 [zr a,zr b] (.bool (decide (a=b))):=by
 refine aF func247 ?_
 rw[<-zft]
 simp[f247,zr]
 refine zg (Wa a b H G) ?_
 cases h:zP a b
 .simp
  refine zg (Wa b a G H) ?_
  simp
 .simp
theorem zfu(g:aj)(G:g.ba.length<2^62)(hs:∀ r∈g.ba,r.dst.length<2^62):aq prog 274 [g.d] (.bool (gn g.ba)):=by
 refine aF func274 ?_
 simp[f274,aj.d,yF,int]
 refine cl (λk:Nat=>{n:=18,next:=1,af:=[(1,.bp 0 0),(3,.d (.int .i64 k))],own:=[(0,.box 36 [.d (zL g.inv),.d (.str g.bt.name),.d (zJ g.bt.au),.d (wK g.bt.cA),.d (yF g.ba),.d (int g.bM.az),.d (bk g.bM.aw),.d (aa g.bM.aS),.d (zm g.aM)])]})
  (λk=>k<=g.ba.length/\∀ r∈g.ba.take k,0∉r.dst) (λk=>g.ba.length-k) 0 (by simp) (by simp[yF,int]) ?_
 intro k ⟨F,E⟩
 by_cases H:k<g.ba.length
 .have e1:g.ba[k]?=some g.ba[k]:=ac H
  simp+decide[yF,bK.row,int,H];refine zg (G3 g.ba[k].dst 0 (hs _ (nF H))) ?_
  simp+decide[aB];refine⟨λh=>?_,λh=>⟨by omega,k+1,⟨H,kW H E h⟩,by omega,by omega⟩⟩
  exact(Es H (by simpa using h))
 .obtain rfl:k=g.ba.length:=by omega
  simp+decide[yF];simp only[nH] at E;simp only[gn,oB];intro r K;simpa using E r K
theorem yh{α:Type}{l:List α}{k:Nat}(h:k<l.length):l.take (k+1)=l.take k++[l[k]]:=by
 rw[nX h]
def u32(m:Nat):D:=.int .u32 m
def kX(m:Nat)(q:Int):Bool:=m.testBit q.toNat
def qC(m:Nat)(q:Int):Nat:=m ||| (1 <<< q.toNat)
theorem zm0:∀ (m:Fin 8) (q:Fin 3),(decide (wB .and .u32 (Yo .shr .u32 (m.val:Int) (q.val:Int)) 1=1))=m.val.testBit q.val:=by decide +kernel
theorem ziv:∀ (m:Fin 8) (q:Fin 3),wB .or .u32 (m.val:Int) (Yo .shl .u32 1 (q.val:Int))=((m.val ||| (1 <<< q.val):Nat):Int):=by decide +kernel
theorem zqu:∀ (m:Fin 8) (q:Fin 3),m.val ||| (1 <<< q.val)<8:=by decide +kernel
theorem Ew{m:Nat}{q:Int}(H:m<8)(G:0<=q)(F:q<3):(decide (wB .and .u32 (Yo .shr .u32 (m:Int) q) 1=1))=kX m q:=by
 have:=zm0 ⟨m,H⟩ ⟨q.toNat,by omega⟩
 simp only[show((q.toNat:Nat):Int)=q by omega] at this
 exact this
theorem G9{m:Nat}{q:Int}(H:m<8)(G:0<=q)(F:q<3):wB .or .u32 (m:Int) (Yo .shl .u32 1 q)=((qC m q:Nat):Int):=by
 have:=ziv ⟨m,H⟩ ⟨q.toNat,by omega⟩
 simp only[show((q.toNat:Nat):Int)=q by omega] at this
 exact this
theorem Ey{m:Nat}{q:Int}(H:m<8)(G:0<=q)(F:q<3):qC m q<8:=zqu ⟨m,H⟩ ⟨q.toNat,by omega⟩
theorem ziw(m:Nat)(q:Int)(H:m<8)(G:0<=q)(F:q<3):aq prog 265 [u32 m,int q] (.bool (kX m q)):=by
 refine aF func265 ?_
 simp+decide[f265,u32,int]
 have E:IntKind.u64.wrap q=q:=by rw[IntKind.wrap_u64];omega
 rw[E]
 exact .inl ⟨G,Ew H G F⟩
theorem EA(m:Nat)(q:Int)(H:m<8)(G:0<=q)(F:q<3):aq prog 204 [u32 m,int q] (u32 (qC m q)):=by
 refine aF func204 ?_
 simp+decide[f204,u32,int]
 have E:IntKind.u64.wrap q=q:=by rw[IntKind.wrap_u64];omega
 rw[E]
 exact .inl ⟨G,G9 H G F⟩
abbrev Ge(n:aY)(m:Nat):D:=.fn 264 [.ptr n.cells,.ptr [u32 m]]
theorem zm1(n:aY)(m:Nat):aq prog 235 [.agg n.cells,u32 m] (Ge n m):=by
 refine aF func235 ?_
 simp+decide[f235,u32,int,aY.cells]
def xG(m:Nat)(c:Int)(out:Nat)(s:dN):Nat:=if kX m s.bl=true/\s.cU=c then qC out s.dst else out
def yw(l:List dN)(m:Nat)(c:Int):Nat:=l.foldl (xG m c) 0
def YE(l:List dN):Prop:=∀ s∈l,(0<=s.bl/\s.bl<3)/\(0<=s.dst/\s.dst<3)
theorem Wb{m:Nat}{c:Int}:∀ {l:List dN} {out:Nat},YE l->out<8->l.foldl (xG m c) out<8
 | [],out,_,h=>h
 |s::l,out,H,h=>by
  rw[oK];refine Wb (λx hx=>H x (by simp[hx])) ?_
  unfold xG;split
  .have:=(H s (by simp)).2;exact Ey h this.1 this.2
  .exact h
theorem Gf{l:List dN}(h:YE l)(m:Nat)(c:Int):yw l m c<8:=Wb h (by omega)
def uI(n:aY)(m:Nat):List ah:=[.junk,.junk,.junk,.junk,.junk,.bp 2 0,.junk,.bp 1 0,.junk,.junk,.junk,.d (Ge n m),.junk,.junk,.junk,.junk,.junk,.junk,.junk,.junk,.junk,.junk]
@[simp] theorem zs3(n:aY)(m:Nat):ah.a_ 3 (uI n m):=by simp[uI,ah.a_,ah.lo]
noncomputable def jJ(n:aY)(m:Nat)(c:Int)(out:Nat)(s:LoopState):List (Nat×am):=
 [(0,.cN (.lp #[12] (jd f203) (je f203) s none) (uI n m)),(1,.box 218 [.d (u32 out)]),(2,.box 3 [.d (int c)])]
theorem zix(n:aY)(m:Nat)(c:Int)(out:Nat)(H:out<8)(s:dN)(hs:0<=s.dst/\s.dst<3):
  Yy prog 0 [.d (.agg s.row)] (jJ n m c out .ready) 3 (.d (.bool true)) 3 (jJ n m c (if s.cU=c then qC out s.dst else out) .ready) []:=by
 refine JR (cells:=uI n m) (ps:=#[12]) (a_s := jd f203) (bd:=je f203) rfl (by simp) (by simp[uI]) (by omega) (by simp[ah.a_,ah.lo]) ?_
 have G:=EA out s.dst H hs.1 hs.2
 by_cases F:s.cU=c
 .rw[gt F]
  simp+decide[jJ,uI,jd,je,wI,f203,dN.row,int,u32,F];refine zg G ?_
  simp+decide[u32]
 .rw[ge F]
  simp+decide[jJ,uI,jd,je,wI,f203,dN.row,int,u32,F]
theorem zm2(n:aY)(m:Nat)(c:Int)(E:YE n.aw)(J:m<8)(L:n.aw.length<2^40):
  aU prog 264 [.yd 0,.d (.ptr n.cells),.d (.ptr [u32 m])] (jJ n m c 0 .ready) 3 (.d (.bE [])) 3 (jJ n m c (yw n.aw m c) .ready) []:=by
 refine aU.JW (dd func264 (by simp[ah.a_,ah.lo]) ?_)
 simp+decide[f264,aY.cells,bk,int,u32]
 refine xP (λk:Nat=>{n:=24,next:=3,ai:=3,af:=[(0,.yd 0),(1,.d (.ptr n.cells)),(2,.d (.ptr [u32 m])),(7,.d (bk n.aw)),(8,.d (int n.aw.length)),(9,.d (int k))],own:=jJ n m c ((n.aw.take k).foldl (xG m c) 0) .ready}) n.aw.length (by simp+decide[int,u32,bk,aY.cells,jJ]) ?_
 intro k M
 refine UJ ?_
 by_cases H:k<n.aw.length
 case neg=>
  obtain rfl:k=n.aw.length:=by omega
  rw[nH];have O:(n.aw.foldl (xG m c) 0)=yw n.aw m c:=rfl
  rw[O];simp+decide[int,u32,bk,aY.cells,jJ]
 have F:=bG H
 have aI:(n.aw.take (k+1)).foldl (xG m c) 0=xG m c ((n.aw.take k).foldl (xG m c) 0) n.aw[k]:=by rw[yh H,oI];rfl
 have K:(n.aw.take k).foldl (xG m c) 0<8:=Wb (λx Q=>E x (oh Q)) (by omega)
 obtain⟨s,es,e1⟩:=bN H
 have G:=E s (by rw[<-es];exact nF H)
 rw[es] at aI
 generalize (n.aw.take k).foldl (xG m c) 0=out at aI K
 have T:=ziw m s.bl J G.1.1 G.1.2
 have V:=zix n m c out K s G.2
 simp+decide[int,u32,bk,aY.cells,dN.row,jJ,H,F,es]
 refine zg T ?_
 cases X:kX m s.bl with
 |false=>
  have Y:xG m c out s=out:=by unfold xG;rw[ge (by rw[X];simp)]
  rw[Y] at aI;simp+decide[aB];exact⟨by omega,k+1,H,by omega,by omega,by rw[aI]⟩
 |true=>
  have Y:xG m c out s=if s.cU=c then qC out s.dst else out:=by unfold xG;rw[X];simp
  rw[Y] at aI;simp+decide
  refine ZJ.t_o 0 [0,1,2] [.d (.agg s.row)] (jJ n m c out .ready) (by simp[ce]) (by simp[dN.row,int]) (by simp[ah.a_,ah.lo]) (by simp[jJ,uI,u32,int];rfl) V ?_
  simp+decide[int,u32,jJ,uI,aB];exact⟨by omega,k+1,H,by omega,by omega,by rw[aI]⟩
theorem zm3(n:aY)(m:Nat)(c:Int)(H:YE n.aw)(G:m<8)(F:n.aw.length<2^40):
  aq prog 203 [.agg n.cells,u32 m,int c] (u32 (yw n.aw m c)):=by
 refine TQ func203 rfl nl ?_
 refine Yx mixed 2 {n:=22,next:=3,af:=[(1,.d (u32 m)),(3,.bp 0 0),(5,.bp 1 0),(7,.bp 2 0)],own:=[(0,.box 33 (n.cells.map .d)),(1,.box 3 [.d (int c)]),(2,.box 218 [.d (u32 0)])]} rfl ?_ ?_
 .simp+decide[f203,yo,aY.cells,int,u32]
 simp only[yK]
 refine UL (Yx mixed 1 {n:=22,next:=3,af:=[(5,.bp 1 0),(7,.bp 2 0),(11,.d (Ge n m))],own:=[(1,.box 3 [.d (int c)]),(2,.box 218 [.d (u32 0)])]} rfl ?_ ?_)
 .simp+decide[yo,aY.cells,int,u32]
  refine zg (zm1 n m) ?_
  simp+decide
 simp only[yK]
 refine UM (UK (k:=0) (aD:=[3,2,1]) (args0:=[.yd 0,.d (.ptr n.cells),.d (.ptr [u32 m])]) (aR:=jJ n m c 0 .ready) (by rfl) (by simp[ce]) (by simp) (by simp[ah.a_,ah.lo]) ?_ (zm2 n m c H G F) ?_)
 .simp+decide[jJ,uI,jd,je,wI,f203,u32,int]
 .simp+decide[jJ,uI,u32,int]
def yr(l:List dN)(cs:List Int):Nat:=cs.foldl (λm c=>yw l m c) 1
def yg(l:List Int):Nat:=l.foldl qC 0
theorem Gg{l:List dN}(h:YE l):∀ (cs:List Int) (m:Nat),m<8->cs.foldl (λm c=>yw l m c) m<8
 | [],m,hm=>hm
 |c::cs,m,hm=>by rw[oK];exact Gg h cs _ (Gf h m c)
theorem YF:∀ (l:List Int) (m:Nat),(∀ q∈l,0<=q/\q<3)->m<8->l.foldl qC m<8
 | [],m,_,H=>H
 |q::l,m,h,H=>by
  rw[oK];exact YF l _ (λx hx=>h x (by simp[hx])) (Ey H (h q (by simp)).1 (h q (by simp)).2)
theorem zm4(n:aY)(F:YE n.aw)(K:n.aw.length<2^40)(cs:List Int)(J:cs.length<2^40):aq prog 156 [.agg n.cells,aa cs] (u32 (yr n.aw cs)):=by
 refine aF func156 ?_
 simp+decide[f156,aY.cells,int,aa,u32]
 refine dg (λk:Nat=>{n:=20,next:=1,af:=[(2,.bp 0 0),(5,.d (u32 (yr n.aw (cs.take k)))),(8,.d (aa cs)),(9,.d (int cs.length)),(10,.d (int k))],own:=[(0,.box 33 (n.cells.map .d))]}) cs.length (by simp+decide[int,aa,u32,aY.cells,yr]) ?_
 intro k L
 by_cases H:k<cs.length
 case neg=>
  obtain rfl:k=cs.length:=by omega
  rw[nH];simp+decide[int,aa,u32]
 have G:=bG H
 have aI:yr n.aw (cs.take (k+1))=yw n.aw (yr n.aw (cs.take k)) cs[k]:=by unfold yr;rw[yh H,oI];rfl
 have E:yr n.aw (cs.take k)<8:=Gg F _ 1 (by omega)
 obtain⟨c,ec,e1⟩:=bN H
 rw[ec] at aI
 generalize yr n.aw (cs.take k)=m at aI E
 have M:=zm3 n m c F E K
 simp+decide[int,aa,u32,aY.cells,H,G,ec]
 refine zg M ?_
 simp+decide[u32,aB]
 exact⟨by omega,k+1,H,by omega,by rw[aI],by omega⟩
theorem zfv(n:aY)(E:∀ q∈n.aS,0<=q/\q<3)(K:n.aS.length<2^40):aq prog 157 [.agg n.cells] (u32 (yg n.aS)):=by
 refine aF func157 ?_
 simp+decide[f157,aY.cells,int,aa,u32]
 refine dg (λk:Nat=>{n:=18,next:=1,af:=[(3,.d (u32 (yg (n.aS.take k)))),(7,.d (aa n.aS)),(8,.d (int n.aS.length)),(9,.d (int k))],own:=[]}) n.aS.length (by simp+decide[int,aa,u32,yg]) ?_
 intro k J
 by_cases H:k<n.aS.length
 case neg=>
  obtain rfl:k=n.aS.length:=by omega
  rw[nH];simp+decide[int,aa,u32]
 have G:=bG H
 have aI:yg (n.aS.take (k+1))=qC (yg (n.aS.take k)) n.aS[k]:=by unfold yg;rw[yh H,oI];rfl
 have F:yg (n.aS.take k)<8:=YF _ 0 (λx L=>E x (oh L)) (by omega)
 have M:=E n.aS[k] (nF H)
 obtain⟨c,ec,e1⟩:=bN H
 rw[ec] at aI M
 generalize yg (n.aS.take k)=m at aI F
 have O:=EA m c F M.1 M.2
 simp+decide[int,aa,u32,H,G,ec]
 refine zg O ?_
 simp+decide[u32,aB]
 exact⟨by omega,k+1,H,by omega,by rw[aI],by omega⟩
def Gh(n:aY):Prop:=YE n.aw/\(∀ q∈n.aS,0<=q/\q<3)/\n.aw.length<2^40/\n.aS.length<2^40
theorem zm5:∀ (a b:Fin 8),(wB .and .u32 (a.val:Int) (b.val:Int))=((a.val &&& b.val:Nat):Int):=by decide +kernel
def uJ(n:aY)(cs:List Int):Bool:=decide (yr n.aw cs &&& yg n.aS≠0)
theorem zfw(n:aY)(H:Gh n)(cs:List Int)(G:cs.length<2^40):aq prog 94 [.agg n.cells,aa cs] (.bool (uJ n cs)):=by
 obtain⟨F,E,K,J⟩:=H
 have w1:=zm4 n F K cs G
 have w2:=zfv n E J
 have l1:yr n.aw cs<8:=Gg F cs 1 (by omega)
 have l2:yg n.aS<8:=YF _ 0 E (by omega)
 unfold uJ
 generalize yr n.aw cs=a at w1 l1 ⊢
 generalize yg n.aS=b at w2 l2 ⊢
 have L:=zm5 ⟨a,l1⟩ ⟨b,l2⟩
 simp only at L
 refine aF func94 ?_
 simp+decide[f94,aY.cells,int,aa]
 refine bw w1 ?_
 simp+decide[u32]
 refine bw w2 ?_
 simp+decide[u32,L]
theorem zm6(e:aP)(id:Int):aq prog 98 [.agg e.row,.ptr [int id]] (.bool (decide (e.id=id))):=by
 refine aF func98 ?_
 simp+decide[f98,aP.row,int]
theorem ziy(l:List aP)(id:Int)(F:l.length<2^62):aq prog 97 [zm l,.fn 98 [.ptr [int id]]] (int (xp l id)):=by
 refine aF func97 ?_
 simp[f97,zm]
 refine cl (λk:Nat=>{n:=19,next:=0,af:=[(0,.d (zm l)),(1,.d (.fn 98 [.ptr [int id]])),(6,.d (zm l)),(7,.d (.int .i64 l.length)),(8,.d (.int .i64 k))],own:=[]})
  (λk=>k<=l.length/\∀ e∈l.take k,e.id≠id) (λk=>l.length-k) 0 (by simp) (by simp[zm]) ?_
 intro k ⟨E,K⟩
 by_cases H:k<l.length
 .have G:=bG H
  obtain⟨e,ee,e1⟩:=bN H;simp+decide[zm,aP.row,int,ee,H,G];refine zg (zm6 e id) ?_
  by_cases J:e.id=id
  .have:=G4 H K (by rw[ee];exact J)
   simp+decide[J,xp,this]
  .simp+decide[J,aB]
   exact⟨by omega,k+1,⟨H,kW H K (by rw[ee];exact J)⟩,by omega,by omega⟩
 .obtain rfl:k=l.length:=by omega
  simp+decide[zm,int];simp[xp,G5 (by simpa using K)]
theorem ki(l:List aP)(id:Int):(xp l id<0/\zF l id=(aP.zero,false))\/∃ k:Nat,∃ h:k<l.length,xp l id=k/\zF l id=(l[k],true):=by
 unfold xp zF
 cases h:l.findIdx? (·.id=id) with
 |none=>
  left
  rw[pj] at h;have:l.find? (·.id=id)=none:=by rw[ry];intro x H;simpa using h x H
  rw[this];exact⟨by simp,rfl⟩
 |some k=>
  right
  rw[oN] at h;obtain⟨G,F,E⟩:=h;refine⟨k,G,rfl,?_⟩
  have:l.find? (·.id=id)=some l[k]:=by
   rw[rx];exact⟨F,k,G,rfl,λj hj=>by simpa using E j hj⟩
  rw[this]
theorem Wc(l:List aP)(id:Int)(F:l.length<2^40):aq prog 42 [zm l,int id] (.bE [.agg (zF l id).1.row,.bool (zF l id).2]):=by
 refine aF func42 ?_
 simp+decide[f42,zm,int]
 refine zg (ziy l id (by omega)) ?_
 rcases ki l id with⟨E,K⟩ | ⟨k,J,E,K⟩
 .rw[K]
  simp+decide[int,E,aP.zero,aP.row,aa,yk,zW,xo,wo]
 .rw[K,E]
  have H:¬(k:Int)<0:=by omega
  have G:(k:Int)<l.length:=by omega
  simp+decide[int,H,J,G,aP.row,aa,yk,zW,xo,wo]
def kj(l:List aP):Nat->Int->Option (List cC)
 |0,_=>none
 |f+1,id=>if (zF l id).2=true then (if (zF l id).1.aL≠[] then some (zF l id).1.aL else if (zF l id).1.main=0 then none else kj l f (zF l id).1.main) else none
def xg(l:List aP)(id:Int):List cC:=(kj l (l.length+1) id).getD []
theorem zbx(l:List cC)(H:l.length<2^40):aq prog 103 [zW l] (zW l):=by
 refine aF func103 ?_
 simp+decide[f103,zW,maxLen]
 exact⟨λa _=>rfl,by omega,by omega⟩
def wL:List ah:=[.junk,.junk,.junk,.junk,.bp 1 0,.junk,.junk,.junk,.fn 160 [.bp 2 0,.bp 3 0],.junk,.junk,.junk,.junk,.junk,.junk,.junk,.junk]
@[simp] theorem zs4:ah.a_ 4 wL:=by simp[wL,ah.a_,ah.lo]
@[simp] theorem zqr:yf (yE [0,1,2,3] 5) wL=wL:=rfl
noncomputable def vR(s:LoopState)(pd:Option Code):am:=.cN (.lp #[9] (jd f45) (je f45) s pd) wL
noncomputable def vG(l:List aP)(id:Int):List (Nat×am):=
 [(0,vR .ready none),(1,.box 98 [.aW]),(2,.box 34 [.d (zm l)]),(3,.box 3 [.d (int id)])]
noncomputable def Gi(l:List aP)(id:Int)(ss:List cC):List (Nat×am):=
 [(0,vR .done (some .ret)),(1,.box 98 [.d (zW ss)]),(2,.box 34 [.d (zm l)]),(3,.box 3 [.d (int id)])]
theorem zfx(l:List aP)(id:Int)(e:aP)(H:e.aL=[]):
  Yy prog 0 [.d (.agg e.row)] (vG l id) 4 (.d (.bool true)) 4 (vG l id) []:=by
 refine JR (cells:=wL) (ps:=#[9]) (a_s := jd f45) (bd:=je f45) rfl (by simp) (by simp[wL]) (by omega) (by simp[ah.a_,ah.lo]) ?_
 simp+decide[vG,vR,wL,jd,je,wI,f45,aP.row,int,H,zW]
theorem zfy(l:List aP)(id:Int)(e:aP)(H:e.aL≠[])(G:e.aL.length<2^40):
  Yy prog 0 [.d (.agg e.row)] (vG l id) 4 (.d (.bool false)) 4 (Gi l id e.aL) []:=by
 refine JR (cells:=wL) (ps:=#[9]) (a_s := jd f45) (bd:=je f45) rfl (by simp) (by simp[wL]) (by omega) (by simp[ah.a_,ah.lo]) ?_
 have F:=zbx e.aL G
 have E:(0:Int)<e.aL.length:=by
  have:e.aL.length≠0:=λe2=>H (nZ e2)
  omega
 simp+decide[vG,Gi,vR,wL,jd,je,wI,f45,aP.row,int,H,zW]
 intro _
 refine zg F ?_
 simp+decide[zW]
noncomputable def ZQ:Option (List cC)->List (Nat×am)
 |none=>[(0,vR .ready none),(1,.box 98 [.aW])]
 |some ss=>[(0,vR .done (some .ret)),(1,.box 98 [.d (zW ss)])]
theorem zm7(l:List aP)(id:Int)(L:l.length<2^40)(hs:∀ e∈l,e.aL.length<2^40):
  aU prog 160 [.yd 0,.bp 2 0,.bp 3 0] (vG l id) 4 (.d (.bE [])) 4 (ZQ (kj l (l.length+1) id)) []:=by
 refine aU.JW (dd func160 (by simp[ah.a_,ah.lo]) ?_)
 simp+decide[f160,vG,zm,int,aB]
 refine⟨by omega,?_⟩
 refine qg (λx:Nat×Int=>{n:=33,next:=4,ai:=4,af:=[(0,.yd 0),(1,.bp 2 0),(2,.bp 3 0),(8,.d (int (l.length+1))),(9,.d (int x.1))],own:=vG l x.2})
  (λx=>x.1<=l.length+1/\kj l (l.length+1-x.1) x.2=kj l (l.length+1) id) (λx=>l.length+1-x.1) (0,id) (by simp) (by simp+decide[int,zm,vG,vR]) ?_
 rintro⟨k,i⟩ ⟨M,O⟩
 simp only at M O
 refine UJ ?_
 by_cases J:k<l.length+1
 case neg=>
  obtain rfl:k=l.length+1:=by omega
  rw[rU] at O;rw[<-O];simp+decide[int,zm,vG,vR,kj,ZQ]
 have E:(k:Int)<l.length+1:=by omega
 rw[show l.length+1-k=(l.length-k)+1 by omega,kj] at O
 have Q:=Wc l i L
 have H:(zF l i).2=true->(zF l i).1∈l:=by
  rcases ki l i with⟨_,T⟩ | ⟨j,hj,_,T⟩
  .rw[T];intro h;cases h
  .rw[T];intro _;exact nF hj
 generalize zF l i=g at O Q H
 obtain⟨e,ok⟩:=g
 simp only at O Q H
 simp+decide[int,zm,vG,vR,E]
 refine zg Q ?_
 cases ok with
 |false=>
  simp only[ou,oU] at O;rw[<-O];simp+decide[int,vR,ZQ,aP.row]
 |true=>
  simp only[oV] at O;have K:=H rfl;by_cases G:e.aL=[]
  .have V:=zfx l i e G
   rw[ge (by simp[G])] at O
   simp+decide[int,aP.row];refine ZJ.t_o 0 [0,1,2,3] [.d (.agg e.row)] (vG l i) (by simp[ce]) (by simp[aP.row,int]) (by simp[ah.a_,ah.lo]) (by simp[vG,vR,wL,zm,int];rfl) V ?_
   by_cases F:e.main=0
   .rw[gt F] at O
    rw[<-O];simp+decide[int,zm,vG,vR,ZQ,F]
   .rw[ge F] at O
    simp+decide[int,zm,vG,vR,ZQ,F];exact⟨by unfold aB;omega,k+1,e.main,⟨by omega,by rw[show l.length+1-(k+1)=l.length-k by omega];exact O⟩,by omega,by omega,rfl⟩
  .have V:=zfy l i e G (hs e K)
   rw[gt G] at O;rw[<-O];simp+decide[int,aP.row];refine ZJ.t_o 0 [0,1,2,3] [.d (.agg e.row)] (vG l i) (by simp[ce]) (by simp[aP.row,int]) (by simp[ah.a_,ah.lo]) (by simp[vG,vR,wL,zm,int];rfl) V ?_
   simp+decide[int,zm,Gi,vR,ZQ]
theorem zs9(l:List aP)(id:Int):aU prog 102 [.d (zm l),.d (int id)] [] 0 (.fn 160 [.bp 0 0,.bp 1 0]) 2 [(0,.box 34 [.d (zm l)]),(1,.box 3 [.d (int id)])] []:=by
 refine dd func102 (by simp[ah.a_,ah.lo]) ?_
 simp+decide[f102,zm,int]
theorem Wg(l:List aP)(id:Int)(H:l.length<2^40)(hs:∀ e∈l,e.aL.length<2^40):aq prog 45 [zm l,int id] (zW (xg l id)):=by
 refine TQ func45 rfl c_45 ?_
 refine Yx mixed 1 {n:=17,next:=1,af:=[(0,.d (zm l)),(1,.d (int id)),(4,.bp 0 0)],own:=[(0,.box 98 [.aW])]} rfl ?_ ?_
 .simp+decide[f45,yo,zm,int]
 simp only[yK]
 refine UL (Yx mixed 1 {n:=17,next:=3,af:=[(4,.bp 0 0),(8,.fn 160 [.bp 1 0,.bp 2 0])],own:=[(0,.box 98 [.aW]),(1,.box 34 [.d (zm l)]),(2,.box 3 [.d (int id)])]} rfl ?_ ?_)
 .simp+decide[yo,zm,int]
  refine zE.mut [] [.d (zm l),.d (int id)] [] (by rfl) (by simp[zm,int]) (by simp) (by simp) (zs9 l id) ?_
  simp+decide[zm,int]
 simp only[yK]
 refine UM (UK (k:=0) (aD:=[3,0,1,2]) (args0:=[.yd 0,.bp 2 0,.bp 3 0]) (aR:=vG l id) (by rfl) (by simp[ce]) (by simp) (by simp[ah.a_,ah.lo]) ?_ (zm7 l id H hs) ?_)
 .simp+decide[vG,vR,wL,jd,je,wI,f45,int,zm]
 .unfold xg
  cases kj l (l.length+1) id with
  |none=>
   simp+decide[ZQ,vR,int,zm,zW]
  |some ss=>
   simp+decide[ZQ,vR,int,zm]
structure dV(l:List aP):Prop where
 len:l.length<2^40
 cm:∀ e∈l,e.cm.length<2^39
 du:∀ e∈l,∀ w∈e.aK,w.length<2^20
 aL:∀ e∈l,e.aL.length<2^40
theorem YG{l:List aP}{id:Int}(h:(zF l id).2=true):(zF l id).1∈l:=by
 rcases ki l id with⟨_,H⟩ | ⟨j,hj,_,H⟩
 .rw[H] at h;cases h
 .rw[H];exact nF hj
theorem XN{l:List aP}(h:dV l)(id:Int):(zF l id).1.cm.length<2^39:=by
 cases H:(zF l id).2 with
 |true=>exact h.cm _ (YG H)
 |false=>
  rcases ki l id with⟨_,G⟩ | ⟨j,hj,_,G⟩
  .rw[G];simp[aP.zero]
  .rw[G] at H;cases H
theorem Gj(e:aP)(h:e.cm.length<2^40):aq prog 44 [.agg e.row] (yk e.aK):=by
 refine aF func44 ?_
 simp[f44,aP.row,yk,aa,aP.aK,maxLen]
 omega
def zj:D->List ah
 |.agg l=>l.map .d
 |_=>[]
def qD(l:List aP)(p:aG):aP×List Int×Bool:=
 if (zF l p.entry).2=true/\0<=p.bf/\p.bf<(zF l p.entry).1.aK.length then ((zF l p.entry).1,((zF l p.entry).1.aK[p.bf.toNat]?.getD []),true) else ((zF l p.entry).1,[],false)
def uK(r:aP×List Int×Bool):D:=.bE [.agg r.1.row,aa r.2.1,.bool r.2.2]
theorem Gk(g:aj)(K:dV g.aM)(p:aG):aq prog 93 [g.d,.agg p.row] (uK (qD g.aM p)):=by
 have J:=Wc g.aM p.entry K.len
 have L:=XN K p.entry
 unfold qD
 generalize zF g.aM p.entry=r at J L
 obtain⟨e,ok⟩:=r
 simp only at J L
 have M:=Gj e (by omega)
 have E:e.aK.length=e.cm.length+1:=by simp[aP.aK]
 refine aF func93 ?_
 simp+decide[f93,aj.d,aG.row,int]
 refine zg J ?_
 simp+decide[int,aP.row]
 refine zg M ?_
 cases ok with
 |false=>
  simp+decide[int,aP.row,uK,aa]
 |true=>
  by_cases O:p.bf<0
  .have H:¬0<=p.bf:=by omega
   simp+decide[int,aP.row,uK,aa,O,H];done
  have H:0<=p.bf:=by omega
  by_cases Q:p.bf<e.aK.length
  .have F:p.bf.toNat<e.aK.length:=by omega
   obtain⟨w,ew⟩:∃ w,e.aK[p.bf.toNat]=w:=⟨_,rfl⟩;have e1:e.aK[p.bf.toNat]?=some w:=by rw[ac F,ew]
   have G:¬(e.aK.length:Int)<=p.bf:=by omega
   simp+decide[int,aP.row,yk,uK,O,H,Q,G,ew];refine Z8 mixed 6 [2] (by rfl) (by rfl) (by rfl) (by rfl) (by simp) ?_
   simp+decide[aa,H,Q,ew,F]
  .have G:(e.aK.length:Int)<=p.bf:=by omega
   simp+decide[int,aP.row,yk,uK,aa,O,H,Q,G]
def yu(l:List aP)(ps:List aG):List Int:=ps.flatMap λp=>if (qD l p).2.2=true then [(qD l p).1.cU] else []
def zM(l:List aP)(ps:List aG):List Int:=ps.flatMap λp=>if (qD l p).2.2=true then (qD l p).2.1 else []
theorem EB{l:List aP}{ps:List aG}{k:Nat}(h:k<ps.length):yu l (ps.take (k+1))=yu l (ps.take k)++(if (qD l ps[k]).2.2=true then [(qD l ps[k]).1.cU] else []):=by
 unfold yu;rw[yh h,oW,pQ]
theorem EC{l:List aP}{ps:List aG}{k:Nat}(h:k<ps.length):zM l (ps.take (k+1))=zM l (ps.take k)++(if (qD l ps[k]).2.2=true then (qD l ps[k]).2.1 else []):=by
 unfold zM;rw[yh h,oW,pQ]
theorem XO(l:List aP):∀ ps:List aG,(yu l ps).length<=ps.length
 | []=>by simp[yu]
 |p::ps=>by
  have:=XO l ps
  unfold yu at this ⊢;rw[pz,nO,nP];split <;> simp only[sw,pc] <;> omega
theorem Gl{l:List aP}(h:dV l)(p:aG):(qD l p).2.1.length<2^20:=by
 unfold qD
 split
 .rename_i hc
  have H:p.bf.toNat<(zF l p.entry).1.aK.length:=by omega
  show((zF l p.entry).1.aK[p.bf.toNat]?.getD []).length<_
  rw[ac H];exact h.du _ (YG hc.1) _ (nF H)
 .simp
theorem XP{l:List aP}(h:dV l):∀ ps:List aG,(zM l ps).length<=ps.length*2^20
 | []=>by simp[zM]
 |p::ps=>by
  have H:=XP h ps;have G:=Gl h p;unfold zM at H ⊢;rw[pz,nO,nP,oR];split
  .omega
  .simp only[pc];omega
theorem zfz(g:aj)(E:dV g.aM)(ps:List aG)(K:ps.length<2^20):aq prog 95 [g.d,zr ps] (aa (yu g.aM ps)):=by
 refine aF func95 ?_
 simp+decide[f95,aj.d,zr,zh,int]
 refine dg (λk:Nat=>{n:=33,next:=4,af:=[(2,.bp 0 0),(5,.ar 3),(12,.d (zh ps)),(13,.d (int ps.length)),(14,.d (int k))],own:=[(0,.box 36 (zj g.d)),(3,.aQ 3 1 ((yu g.aM (ps.take k)).map λn=>[int n]))],aA:=[3]}) ps.length (by simp+decide[int,zh,yu,zj,aj.d]) ?_
 intro k J
 by_cases H:k<ps.length
 case neg=>
  obtain rfl:k=ps.length:=by omega
  rw[nH];simp+decide[int,aa,zh]
 have G:=bG H
 have aI:=EB (l:=g.aM) H
 have F:=XO g.aM (ps.take k)
 rw[nR] at F
 obtain⟨p,ep,e1⟩:=bN H
 rw[ep] at aI
 have L:=Gk g E p
 generalize qD g.aM p=r at L aI
 obtain⟨e,w,ok⟩:=r
 simp only at aI
 simp+decide[int,zh,aG.row,H,G,ep,zj,aj.d]
 refine zg L ?_
 cases ok with
 |false=>
  simp only[ou,oU,oq] at aI;simp+decide[uK,int,aa,aP.row,aB];exact⟨by omega,k+1,H,by omega,by omega,by rw[aI]⟩
 |true=>
  simp only[oV] at aI;simp+decide[uK,int,aa,aP.row,aB];exact⟨by omega,by unfold maxLen;omega,by omega,k+1,H,by omega,by omega,by rw[aI];simp⟩
theorem ED(g:aj)(K:dV g.aM)(ps:List aG)(J:ps.length<2^20):aq prog 96 [g.d,zr ps] (aa (zM g.aM ps)):=by
 refine aF func96 ?_
 simp+decide[f96,aj.d,zr,zh,int]
 refine dg (λk:Nat=>{n:=31,next:=4,af:=[(2,.bp 0 0),(5,.ar 3),(12,.d (zh ps)),(13,.d (int ps.length)),(14,.d (int k))],own:=[(0,.box 36 (zj g.d)),(3,.aQ 3 1 ((zM g.aM (ps.take k)).map λn=>[int n]))],aA:=[3]}) ps.length (by simp+decide[int,zh,zM,zj,aj.d]) ?_
 intro k L
 by_cases H:k<ps.length
 case neg=>
  obtain rfl:k=ps.length:=by omega
  rw[nH];simp+decide[int,aa,zh]
 have G:=bG H
 have aI:=EC (l:=g.aM) H
 have F:=XP K (ps.take k)
 rw[nR] at F
 obtain⟨p,ep,e1⟩:=bN H
 rw[ep] at aI
 have M:=Gk g K p
 have E:=Gl K p
 generalize qD g.aM p=r at M aI E
 obtain⟨e,w,ok⟩:=r
 simp only at aI E
 simp+decide[int,zh,aG.row,H,G,ep,zj,aj.d]
 refine zg M ?_
 cases ok with
 |false=>
  simp only[ou,oU,oq] at aI;simp+decide[uK,int,aa,aP.row,aB];exact⟨by omega,k+1,H,by omega,by omega,by rw[aI]⟩
 |true=>
  simp only[oV] at aI;simp+decide[uK,int,aa,aP.row,aB];exact⟨by omega,by unfold maxLen;omega,by omega,k+1,H,by omega,by omega,by rw[aI];simp⟩
def uL(l:List Int)(x:Int):Int:=match l.findIdx? (· = x) with
 |some k=>k
 |none=>-1
theorem Gm(l:List Int)(x:Int):(0<=uL l x↔x∈l):=by
 unfold uL
 cases h:l.findIdx? (· = x) with
 |none=>
  rw[pj] at h;constructor
  .intro e;change (0:Int)<=-1 at e;omega
  .intro e;have:=h x e;simp at this
 |some k=>
  rw[oN] at h;obtain⟨H,G,_⟩:=h;constructor
  .intro _;have F:l[k]=x:=by simpa using G
   rw[<-F];exact nF H
  .intro _;exact Int.natCast_nonneg k
theorem EE(l:List Int)(x:Int)(E:l.length<2^62):aq prog 167 [aa l,int x] (int (uL l x)):=by
 refine aF func167 ?_
 simp[f167,aa]
 refine cl (λk:Nat=>{n:=19,next:=0,af:=[(0,.d (aa l)),(1,.d (int x)),(6,.d (aa l)),(7,.d (.int .i64 l.length)),(8,.d (.int .i64 k))],own:=[]})
  (λk=>k<=l.length/\∀ y∈l.take k,y≠x) (λk=>l.length-k) 0 (by simp) (by simp[aa,int]) ?_
 intro k ⟨K,J⟩
 by_cases H:k<l.length
 .have G:=bG H
  obtain⟨c,ec,e1⟩:=bN H;by_cases L:c=x
  .have M:l.findIdx? (· = x)=some k:=by
    rw[oN];refine⟨H,by simpa[ec] using L,λj hj=>?_⟩
    have:=J l[j] (by rw[oG];exact⟨j,by omega,rfl⟩)
    simpa using this
   subst L;simp+decide[aa,int,ec,H,G,uL,M]
  .have F:¬x=c:=λe=>L e.symm
   simp+decide[aa,int,ec,H,G,F,aB];exact⟨by omega,k+1,⟨H,kW H J (by rw[ec];exact L)⟩,by omega,by omega⟩
 .obtain rfl:k=l.length:=by omega
  have M:l.findIdx? (· = x)=none:=by
   rw[pj];intro y O;have:=J y (by rwa [nH]);simpa using this
  simp+decide[aa,int,uL,M]
theorem zby(l:List Int)(x:Int)(H:l.length<2^62):aq prog 116 [aa l,int x] (.bool (decide (x∈l))):=by
 refine aF func116 ?_
 simp+decide[f116,int,aa]
 refine zg (EE l x H) ?_
 have:=Gm l x
 simp+decide[int,this]
theorem EF(l:List Int)(x:Int)(H:l.length<2^62):aq prog 60 [aa l,int x] (.bool (decide (x∈l))):=by
 refine aF func60 ?_
 simp+decide[f60,int,aa]
 refine zg (zby l x H) ?_
 simp+decide
def Wh(inv:List bD)(cs:List ig):D:=.agg [zL inv,xA cs]
theorem zm8(inv:List bD)(cs:List ig)(k:Nat)(G:k<cs.length)(n:Int)(F:inv.length<2^62):aq prog 281 [Wh inv cs,int k,int n] (.bool (jI inv n cs[k])):=by
 have H:(k:Int)<cs.length:=by omega
 obtain⟨c,ec,e1⟩:=bN G
 rw[ec]
 refine aF func281 ?_
 simp+decide[f281,int,Wh,xA,ig.row,G,H,ec]
 refine bw (AV inv n c F) ?_
 simp+decide
def wM(inv:List bD)(cs:List ig)(ws:List Int):Bool:=(ws.zip cs).all λx=>jI inv x.1 x.2
theorem zm9{α β:Type}{a:List α}{b:List β}{k:Nat}(h:k<a.length)(H:k<b.length):(a.take (k+1)).zip (b.take (k+1))=(a.take k).zip (b.take k)++[(a[k],b[k])]:=by
 rw[yh h,yh H,List.zip_append (by rw[nR,nR];omega)];rfl
theorem EG(inv:List bD)(cs:List ig)(ws:List Int)(J:ws.length=cs.length)(L:inv.length<2^62)(M:cs.length<2^62):
  aq prog 280 [.fn 281 [],Wh inv cs,aa ws] (.bool (wM inv cs ws)):=by
 refine aF func280 ?_
 simp+decide[f280,Wh,aa]
 refine cl (λk:Nat=>{n:=23,next:=1,af:=[(0,.d (.fn 281 [])),(4,.bp 0 0),(9,.d (aa ws)),(10,.d (.int .i64 ws.length)),(11,.d (.int .i64 k))],own:=[(0,.box 319 [.d (zL inv),.d (xA cs)])]})
  (λk=>k<=ws.length/\((ws.take k).zip (cs.take k)).all (λx=>jI inv x.1 x.2)=true) (λk=>ws.length-k) 0 (by simp) (by simp[aa]) ?_
 intro k ⟨O,Q⟩
 by_cases H:k<ws.length
 .have G:=bG H
  have E:k<cs.length:=by omega
  have T:=zm8 inv cs k E ws[k] L;have aI:=zm9 H E;obtain⟨c,ec,e1⟩:=bN H;rw[ec] at T aI;simp+decide[aa,ec,H,G];refine zg T ?_
  cases V:jI inv c cs[k] with
  |true=>
   simp+decide[aB];refine⟨by omega,k+1,⟨H,?_⟩,by omega,by omega⟩
   intro x y K;have F:((ws.take (k+1)).zip (cs.take (k+1))).all (λx=>jI inv x.1 x.2)=true:=by rw[aI,List.all_append,Q,pK];simp[V]
   exact oo.1 F (x,y) K
  |false=>
   have X:wM inv cs ws=false:=by
    unfold wM;rw[wn];refine⟨(c,cs[k]),?_,by rw[V];decide⟩
    rw[nT];exact⟨k,by rw[List.length_zip];omega,by rw[List.getElem_zip,ec]⟩
   simp+decide[X]
 .obtain rfl:k=ws.length:=by omega
  rw[nH,J,nH] at Q;have X:wM inv cs ws=true:=Q
  simp+decide[aa,X]
def km(inv:List bD)(r:bK)(w:List Int)(k:Nat):Bool:=
 decide (w[k]?.getD 0∈r.bl)&&decide (r.left.length<=k)&&decide (k+1+r.right.length<=w.length) && !(r.fo&&decide (r.left.length<k)) && !(r.ck&&decide (k+1+r.right.length<w.length)) &&
  wM inv r.left ((w.take k).drop (k-r.left.length))&&wM inv r.right ((w.take (k+1+r.right.length)).drop (k+1))
structure RuleFit(r:bK):Prop where
 bl:r.bl.length<2^40
 left:r.left.length<2^40
 right:r.right.length<2^40
theorem zqv(inv:List bD)(B:inv.length<2^62)(r:bK)(C:RuleFit r)(w:List Int)(I:w.length<2^40)(k:Nat)(N:k<w.length):
  aq prog 267 [.agg [zL inv],.agg r.row,aa w,int k] (.bool (km inv r w k)):=by
 obtain⟨P,S,W⟩:=C
 obtain⟨x,ex,e1⟩:=bN N
 have V:(k:Int)<w.length:=by omega
 have hH:=EF r.bl x (by omega)
 obtain⟨R,hR⟩:∃ R,km inv r w k=R:=⟨_,rfl⟩
 rw[hR]
 unfold km at hR
 rw[e1,nW] at hR
 refine aF func267 ?_
 obtain⟨bl,dst,left,right,fo,ck⟩:=r
 simp only at P S W hH hR
 simp+decide[f267,int,bK.row,xA,aB]
 refine⟨by omega,by omega,by omega,?_⟩
 simp+decide[aa,ex,N,V]
 refine bw hH ?_
 by_cases hx:x∈bl
 case neg=>
  have:R=false:=by rw[<-hR];simp[hx]
  subst this;simp+decide[hx]
 by_cases hf:left.length<=k
 case neg=>
  have:R=false:=by rw[<-hR];simp[hf]
  subst this;have H:(k:Int)-left.length<0:=by omega
  simp+decide[hx,H]
 have H:¬(k:Int)-left.length<0:=by omega
 by_cases ht:k+1+right.length<=w.length
 case neg=>
  have:R=false:=by rw[<-hR];simp[ht]
  subst this;have G:(w.length:Int)<k+1+right.length:=by omega
  simp+decide[hx,H,G]
 have G:¬(w.length:Int)<k+1+right.length:=by omega
 by_cases hb:fo=true/\left.length<k
 case pos=>
  obtain⟨X,J⟩:=hb;subst X;have:R=false:=by rw[<-hR];simp[J]
  subst this;have O:(0:Int)<(k:Int)-left.length:=by omega
  simp+decide[hx,H,G,J]
 have J:(fo&&decide (left.length<k))=false:=by
  cases fo
  .rfl
  .simp at hb;simp[hb]
 by_cases he:ck=true/\k+1+right.length<w.length
 case pos=>
  obtain⟨Y,L⟩:=he;subst Y;have:R=false:=by rw[<-hR];simp[L]
  subst this;have Q:(k:Int)+1+right.length<w.length:=by omega
  cases fo
  .simp+decide[hx,H,G,Q]
  .have O:¬(0:Int)<(k:Int)-left.length:=by simp at hb;omega
   simp+decide[hx,H,G,Q]
 have L:(ck&&decide (k+1+right.length<w.length))=false:=by
  cases ck
  .rfl
  .simp at he;simp[he]
 have Z:((w.take k).drop (k-left.length)).length=left.length:=by rw[oO,nR];omega
 have A:((w.take (k+1+right.length)).drop (k+1)).length=right.length:=by rw[oO,nR];omega
 have E:=EG inv left _ Z B (by omega)
 have F:=EG inv right _ A B (by omega)
 have eL:∀ a b,aa ((w.take a).drop b) = .sl (((w.map λn=>[D.int .i64 n]).take a).drop b):=λa b=>by simp[aa,tE,rG]
 rw[eL] at E F
 rw[J,L] at hR
 generalize wM inv left ((w.take k).drop (k-left.length))=b1 at E hR
 generalize wM inv right ((w.take (k+1+right.length)).drop (k+1))=b2 at F hR
 have hR:R=(b1&&b2):=by rw[<-hR];simp[hx,hf,ht]
 subst hR
 have M:fo=true->¬(0:Int)<(k:Int)-left.length:=by
  intro e;subst e;simp at hb;omega
 have K:ck=true->¬(k:Int)+1+right.length<w.length:=by
  intro e;subst e;simp at he;omega
 have ek:((k:Int)+1+right.length).toNat=k+1+right.length:=by omega
 have ek1:((k:Int)+1).toNat=k+1:=by omega
 rw[<-ek] at F
 cases fo with
 |false=>
  cases ck with
  |false=>
   simp+decide[hx,hf,H,G];refine⟨⟨by omega,by omega⟩,?_⟩
   refine bw E ?_
   cases b1 with
   |false=>simp+decide
   |true=>
    simp+decide[aB];refine⟨by omega,⟨by omega,by omega,by omega⟩,?_⟩
    refine bw F ?_
    simp+decide
  |true=>
   have:=K rfl
   simp+decide[hx,hf,H,G,this];refine⟨⟨by omega,by omega⟩,?_⟩
   refine bw E ?_
   cases b1 with
   |false=>simp+decide
   |true=>
    simp+decide[aB];refine⟨by omega,⟨by omega,by omega,by omega⟩,?_⟩
    refine bw F ?_
    simp+decide
 |true=>
  have O:=M rfl;have T:¬left.length<k:=by omega
  cases ck with
  |false=>
   simp+decide[hx,hf,H,G,T];refine⟨⟨by omega,by omega⟩,?_⟩
   refine bw E ?_
   cases b1 with
   |false=>simp+decide
   |true=>
    simp+decide[aB];refine⟨by omega,⟨by omega,by omega,by omega⟩,?_⟩
    refine bw F ?_
    simp+decide
  |true=>
   have:=K rfl
   simp+decide[hx,hf,H,G,T,this];refine⟨⟨by omega,by omega⟩,?_⟩
   refine bw E ?_
   cases b1 with
   |false=>simp+decide
   |true=>
    simp+decide[aB];refine⟨by omega,⟨by omega,by omega,by omega⟩,?_⟩
    refine bw F ?_
    simp+decide
def Z9(inv:List bD)(r:bK)(w:List Int)(k:Nat)(x:Int):List Int:=
 if km inv r w k=true then (if r.dst[(uL r.bl x).toNat]?.getD 0=0 then [] else [r.dst[(uL r.bl x).toNat]?.getD 0]) else [x]
def uM(inv:List bD)(r:bK)(w:List Int):List Int:=(w.zipIdx.map λx=>Z9 inv r w x.2 x.1).flatten
theorem zdi{α:Type}{l:List α}{k:Nat}(h:k<l.length):l.zipIdx.take (k+1)=l.zipIdx.take k++[(l[k],k)]:=by
 have H:k<l.zipIdx.length:=by simpa using h
 rw[yh H]
 simp
def kY(inv:List bD)(r:bK)(w:List Int)(k:Nat):List Int:=((w.zipIdx.take k).map λx=>Z9 inv r w x.2 x.1).flatten
theorem Gn{inv:List bD}{r:bK}{w:List Int}{k:Nat}(h:k<w.length):kY inv r w (k+1)=kY inv r w k++Z9 inv r w k w[k]:=by
 unfold kY;rw[zdi h,oF,q_];simp
theorem zna(inv:List bD)(r:bK)(w:List Int)(k:Nat)(x:Int):(Z9 inv r w k x).length<=1:=by
 unfold Z9;split
 .split <;> simp
 .simp
theorem Wi(inv:List bD)(r:bK)(w:List Int):∀ k,k<=w.length->(kY inv r w k).length<=k
 |0,_=>by simp[kY]
 |k+1,h=>by
  rw[Gn (by omega),nO]
  have H:=Wi inv r w k (by omega)
  have G:=zna inv r w k (w[k]'(by omega))
  omega
theorem Gp(inv:List bD)(r:bK)(w:List Int):kY inv r w w.length=uM inv r w:=by
 unfold kY uM
 rw[oa (by simp)]
structure RuleOk(r:bK):Prop extends RuleFit r where
 dst:r.dst.length=r.bl.length
theorem znb(inv:List bD)(Q:inv.length<2^62)(r:bK)(T:RuleOk r)(w:List Int)(V:w.length<2^40):
  aq prog 237 [.agg [zL inv],.agg r.row,aa w] (aa (uM inv r w)):=by
 rw[<-Gp]
 refine aF func237 ?_
 simp+decide[f237,aa,bK.row]
 refine dg (λk:Nat=>{n:=38,next:=4,af:=[(2,.d (aa w)),(3,.bp 0 0),(4,.bp 1 0),(7,.ar 3),(10,.d (aa w)),(11,.d (int w.length)),(12,.d (int k))],own:=[(0,.box 24 [.d (zL inv)]),(1,.box 90 (r.row.map .d)),(3,.aQ 3 1 ((kY inv r w k).map λn=>[int n]))],aA:=[3]}) w.length (by simp+decide[int,aa,bK.row,kY]) ?_
 intro k X
 by_cases H:k<w.length
 case neg=>
  obtain rfl:k=w.length:=by omega
  simp+decide[int,aa]
 have E:=bG H
 have aI:=Gn (inv:=inv) (r:=r) H
 have L:=Wi inv r w k X
 have Y:=zqv inv Q r T.toRuleFit w V k H
 obtain⟨x,ex,e1⟩:=bN H
 rw[ex] at aI
 have Z:=EE r.bl x (by have:=T.bl;omega)
 have G:=Gm r.bl x
 have K:x∈r.bl->∃ j:Nat,j<r.bl.length/\uL r.bl x=j:=by
  intro A;unfold uL at G ⊢;cases B:r.bl.findIdx? (· = x) with
  |none=>rw[B] at G;exact absurd (G.2 A) (by decide)
  |some j=>
   rw[oN] at B;exact⟨j,B.1,rfl⟩
 have F:km inv r w k=true->x∈r.bl:=by
  intro h;unfold km at h;simp only[nI,nD] at h;have:=h.1.1.1.1.1.1
  rwa [e1,nW] at this
 have M:=T.dst
 unfold Z9 at aI
 simp+decide[int,aa,bK.row,H,E,ex]
 refine zg Y ?_
 cases C:km inv r w k with
 |false=>
  rw[C] at aI;simp only[ou,oU] at aI;simp+decide[aB];exact⟨by omega,by unfold maxLen;omega,by omega,k+1,H,by omega,by omega,by rw[aI];simp⟩
 |true=>
  rw[C] at aI;simp only[oV] at aI;obtain⟨j,hj,ej⟩:=K (F C);have J:j<r.dst.length:=by omega
  obtain⟨y,ey,e2⟩:=bN J;rw[ej,pR,e2,nW] at aI;rw[ej] at Z;have O:(j:Int)<r.dst.length:=by omega
  simp+decide
  refine bw Z ?_
  simp+decide[int,J,O,ey,aB];by_cases I:y=0
  .rw[gt I,oq] at aI
   simp+decide[I];exact⟨⟨by omega,by omega⟩,k+1,H,by omega,by omega,by rw[aI]⟩
  .rw[ge I] at aI
   simp+decide[I];exact⟨by omega,by unfold maxLen;omega,⟨by omega,by omega⟩,k+1,H,by omega,by omega,by rw[aI];simp⟩
theorem zf0(inv:List bD)(r:bK)(w:List Int):(uM inv r w).length<=w.length:=by
 rw[<-Gp];exact Wi inv r w _ (nJ _)
def xH(inv:List bD)(rs:List bK)(w:List Int):List Int:=rs.foldl (λw r=>uM inv r w) w
theorem YH(inv:List bD):∀ (rs:List bK) (w:List Int),(xH inv rs w).length<=w.length
 | [],w=>nJ _
 |r::rs,w=>by
  have H:=YH inv rs (uM inv r w);have G:=zf0 inv r w;unfold xH at H ⊢;rw[oK];omega
theorem EH(inv:List bD)(K:inv.length<2^62)(rs:List bK)(J:∀ r∈rs,RuleOk r)(L:rs.length<2^40)(w:List Int)(M:w.length<2^40):
  aq prog 209 [.agg [zL inv],yF rs,aa w] (aa (xH inv rs w)):=by
 refine aF func209 ?_
 simp+decide[f209,aa,yF]
 refine dg (λk:Nat=>{n:=21,next:=2,af:=[(2,.d (aa (xH inv (rs.take k) w))),(3,.bp 0 0),(9,.d (yF rs)),(10,.d (int rs.length)),(11,.d (int k))],own:=[(0,.box 24 [.d (zL inv)])]}) rs.length (by simp+decide[int,aa,yF,xH]) ?_
 intro k O
 by_cases H:k<rs.length
 case neg=>
  obtain rfl:k=rs.length:=by omega
  rw[nH];simp+decide[int,aa,yF]
 have G:=bG H
 have aI:xH inv (rs.take (k+1)) w=uM inv rs[k] (xH inv (rs.take k) w):=by unfold xH;rw[yh H,oI];rfl
 have E:=YH inv (rs.take k) w
 have F:=J rs[k] (nF H)
 obtain⟨r,er,e1⟩:=bN H
 rw[er] at aI F
 generalize xH inv (rs.take k) w=u at aI E
 have Q:=znb inv K r F u (by omega)
 simp+decide[int,aa,yF,bK.row,H,G,er]
 refine zg Q ?_
 simp+decide[aa,aB]
 exact⟨by omega,k+1,H,by omega,by rw[aI],by omega⟩
structure LangOk(g:aj):Prop where
 aM:dV g.aM
 inv:g.inv.length<2^40
 ba:(∀ r∈g.ba,RuleOk r)/\g.ba.length<2^40
 bM:Gh g.bM
def qE(l:List aP)(p:aG):Int:=
 if (zF l p.entry).2=false then 9 else if (qD l p).2.2=false then 2 else if p.bu<0\/(xg l p.entry).length<=p.bu then 22 else 0
def jf(l:List aP):List aG->Int
 | []=>0
 |p::ps=>if qE l p=0 then jf l ps else qE l p
theorem EI{l:List aP}{ps:List aG}{k:Nat}(h:k<ps.length):jf l (ps.drop k)=if qE l ps[k]=0 then jf l (ps.drop (k+1)) else qE l ps[k]:=by
 rw[nY h];rfl
def qF(g:aj)(ps:List aG):Int:=
 if ps.length=0 then 4 else if 4<ps.length then 11 else if jf g.aM ps≠0 then jf g.aM ps else if uJ g.bM (yu g.aM ps)=false then 21 else if 24<(zM g.aM ps).length then 5 else 0
theorem EJ(g:aj)(V:LangOk g)(ps:List aG)(X:ps.length<2^20):aq prog 41 [g.d,zr ps] (int (qF g ps)):=by
 refine aF func41 ?_
 obtain⟨R,Y⟩:∃ R,qF g ps=R:=⟨_,rfl⟩
 rw[Y]
 unfold qF at Y
 by_cases Z:ps.length=0
 .rw[gt Z] at Y
  subst Y;simp+decide[f41,aj.d,zr,zh,int,Z];done
 rw[ge Z] at Y
 by_cases A:4<ps.length
 .rw[gt A] at Y
  subst Y;have E:(4:Int)<ps.length:=by omega
  have O:¬(ps.length:Int)=0:=by omega
  simp+decide[f41,aj.d,zr,zh,int,Z,E];done
 rw[ge A] at Y
 have E:¬(4:Int)<ps.length:=by omega
 have O:¬(ps.length:Int)=0:=by omega
 simp+decide[f41,aj.d,zr,zh,int,Z,E]
 refine cl (λk:Nat=>{n:=73,next:=2,af:=[(2,.bp 0 0),(3,.bp 1 0),(21,.d (zh ps)),(22,.d (int ps.length)),(23,.d (int k))],own:=[(0,.box 36 (zj g.d)),(1,.box 39 [.d (zh ps)])]})
  (λk=>k<=ps.length/\jf g.aM (ps.drop k)=jf g.aM ps) (λk=>ps.length-k) 0 (by simp) (by simp+decide[int,zh,zj,aj.d]) ?_
 intro k ⟨B,K⟩
 by_cases H:k<ps.length
 case neg=>
  obtain rfl:k=ps.length:=by omega
  rw[pL] at K;rw[<-K] at Y;have C:jf g.aM []=0:=rfl
  rw[C,ge (by simp)] at Y
  have I:=zfz g V.aM ps X;have N:=ED g V.aM ps X;have Q:=XO g.aM ps;have P:=zfw g.bM V.bM (yu g.aM ps) (by omega)
  have T:=XP V.aM ps;simp+decide[int,zh,zj,aj.d];refine bw I ?_
  simp+decide
  refine bw P ?_
  cases M:uJ g.bM (yu g.aM ps) with
  |false=>
   rw[gt M] at Y;subst Y;simp+decide
  |true=>
   rw[ge (by rw[M];decide)] at Y
   simp+decide
   refine zg N ?_
   by_cases S:24<(zM g.aM ps).length
   .rw[gt S] at Y
    subst Y;have J:(24:Int)<(zM g.aM ps).length:=by omega
    simp+decide[aa,J]
   .rw[ge S] at Y
    subst Y;have J:¬(24:Int)<(zM g.aM ps).length:=by omega
    simp+decide[aa,J]
 have L:=bG H
 have aI:=EI (l:=g.aM) H
 rw[K] at aI
 obtain⟨p,ep,e1⟩:=bN H
 rw[ep] at aI
 have W:=Wc g.aM p.entry V.aM.len
 have hF:=Gk g V.aM p
 have hS:=Wg g.aM p.entry V.aM.len V.aM.aL
 unfold qE at aI
 generalize zF g.aM p.entry=r1 at W aI
 generalize qD g.aM p=r2 at hF aI
 generalize xg g.aM p.entry=ss at hS aI
 obtain⟨e,ok⟩:=r1
 obtain⟨e2,w,ok2⟩:=r2
 simp only at aI
 simp+decide[int,zh,aG.row,H,L,ep,zj,aj.d]
 refine zg W ?_
 cases ok with
 |false=>
  have:R=9:=by rw[<-Y,aI];simp
  subst this;simp+decide[int,aP.row]
 |true=>
  simp+decide[int,aP.row];refine zg hF ?_
  cases ok2 with
  |false=>
   have:R=2:=by rw[<-Y,aI];simp
   subst this;simp+decide[int,uK,aP.row]
  |true=>
   simp+decide[int,uK,aP.row];by_cases G:p.bu<0
   .have:R=22:=by rw[<-Y,aI];simp[G]
    subst this;simp+decide[G];intro h;omega
   .simp+decide[G]
    intro _;refine bw hS ?_
    by_cases F:(ss.length:Int)<=p.bu
    .have:R=22:=by rw[<-Y,aI];simp[G,F]
     subst this;simp+decide[zW,F]
    .have hd:jf g.aM (ps.drop (k+1))=jf g.aM ps:=by rw[aI];simp[G,F]
     simp+decide[zW,F];exact⟨⟨by omega,by omega⟩,k+1,⟨H,hd⟩,by omega,by simp⟩
def qj(g:aj)(ps:List aG):List Int×Int:=
 if qF g ps≠0 then ([],qF g ps) else if (xH g.inv g.ba (zM g.aM ps)).length=0 then ([],23) else (xH g.inv g.ba (zM g.aM ps),0)
theorem znc(g:aj)(E:LangOk g)(ps:List aG)(K:ps.length<2^20):aq prog 170 [g.d,zr ps] (.bE [aa (qj g ps).1,int (qj g ps).2]):=by
 have J:=EJ g E ps K
 have L:=ED g E.aM ps K
 have H:qF g ps=0->(zM g.aM ps).length<2^40:=by
  intro h;unfold qF at h;repeat' split at h
  all_goals first | omega | skip
 have M:=λh=>EH g.inv (by have:=E.inv;omega) g.ba E.ba.1 E.ba.2 (zM g.aM ps) (H h)
 have G:=YH g.inv g.ba (zM g.aM ps)
 unfold qj
 generalize qF g ps=R at J M H ⊢
 refine aF func170 ?_
 simp+decide[f170,int,aj.d,zr]
 refine zg J ?_
 by_cases O:R=0
 .subst O
  have M:=M rfl;have H:=H rfl;generalize xH g.inv g.ba (zM g.aM ps)=v at M G ⊢;simp+decide[int];refine bw L ?_
  simp+decide[aa];refine bw M ?_
  by_cases Q:v.length=0
  .simp+decide[aa,pN.mp Q]
  .have F:v≠[]:=λh=>Q (by rw[h];rfl)
   simp+decide[aa,Q,F]
 .simp+decide[int,aa,O]
theorem EK(g:aj)(H:LangOk g)(w:List Int)(G:w.length<2^40)(ps:List aG)(F:ps.length<2^20):aq prog 120 [g.d,aa w,zr ps] (.bool (decide ((qj g ps).2=0/\(qj g ps).1=w))):=by
 have E:=znc g H ps F
 have K:=Eo (qj g ps).1 w (by omega)
 generalize qj g ps=q at E K ⊢
 obtain⟨v,e⟩:=q
 refine aF func120 ?_
 simp+decide[f120,int,aj.d,zr]
 refine zg E ?_
 by_cases J:e=0
 .subst J
  simp+decide[int,aa];refine zg K ?_
  simp+decide
 .simp+decide[int,aa,J]
def qk(l:List aP):Nat->Int->List Int
 |0,_=>[]
 |f+1,id=>if (zF l id).2=true then id::(if (zF l id).1.main=0 then [] else qk l f (zF l id).1.main) else []
theorem EL(l:List aP):∀ f id,(qk l f id).length<=f
 |0,_=>nJ _
 |f+1,id=>by
  have:=EL l f (zF l id).1.main
  unfold qk;split
  .split <;> simp <;> omega
  .simp
theorem zqw{l:List aP}{id:Int}(h:(zF l id).2=true):(zF l id).1.id=id:=by
 unfold zF at h ⊢
 cases H:l.find? (·.id=id) with
 |none=>rw[H] at h;cases h
 |some e=>have:=tK H;simpa using this
theorem Gq(e:aP)(h:e.cm.length<2^39)(bf:Int):aq prog 161 [.agg e.row,int bf] (.bool (decide (0<=bf/\bf<e.aK.length))):=by
 have G:aq prog 49 [.agg e.row] (yk e.aK):=by
  refine aF func49 ?_
  simp[Tryz.f49,aP.row,yk,aa,aP.aK,maxLen];omega
 have H:e.aK.length=e.cm.length+1:=by simp[aP.aK]
 refine aF func161 ?_
 by_cases F:0<=bf
 .simp+decide[f161,int,aP.row,F]
  refine zg G ?_
  simp+decide[yk]
 .simp+decide[f161,int,aP.row,F]
theorem EM(l:List aP)(id:Int)(J:l.length<2^40):aq prog 109 [zm l,int id] (aa (qk l (l.length+1) id)):=by
 refine aF func109 ?_
 simp+decide[f109,int,aa]
 refine zg (W9 l id (by omega)) ?_
 simp+decide[int]
 refine cl (λx:List Int×Int=>{n:=42,next:=2,af:=[(0,.d (zm l)),(5,.ar 1),(6,.d (int (xp l x.2)))],own:=[(1,.aQ 3 1 (x.1.map λn=>[int n]))],aA:=[1]})
  (λx=>x.1++qk l (l.length+1-x.1.length) x.2=qk l (l.length+1) id/\x.1.length<=l.length+1) (λx=>l.length+1-x.1.length) ([],id) (by simp) (by simp+decide[int]) ?_
 rintro⟨out,x⟩ ⟨L,M⟩
 simp only at L M
 have O:xp l x<0->(zF l x).2=false:=by
  intro h;rcases ki l x with⟨_,Q⟩ | ⟨j,hj,T,_⟩
  .rw[Q]
  .omega
 by_cases G:xp l x<0
 .have V:¬0<=xp l x:=by omega
  have X:qk l (l.length+1) id=out:=by
   rw[<-L];have:qk l (l.length+1-out.length) x=[]:=by
    cases l.length+1-out.length with
    |zero=>rfl
    |succ f=>unfold qk;rw[ge (by rw[O G];decide)]
   rw[this,oq]
  rw[X];simp+decide[int,V]
 have V:0<=xp l x:=by omega
 by_cases F:out.length<=l.length
 case neg=>
  have:out.length=l.length+1:=by omega
  have X:qk l (l.length+1) id=out:=by
   rw[<-L,this,rU];exact oq _
  rw[X];have H:¬(out.length:Int)<=l.length:=by omega
  simp+decide[int,V,zm,H]
 rcases ki l x with⟨T,_⟩ | ⟨j,hj,T,Q⟩
 .exact absurd T (by omega)
 have cq:l[j].id=x:=by have:=zqw (l:=l) (id:=x) (by rw[Q]);rw[Q] at this;exact this
 obtain⟨e,ee,e1⟩:=bN hj
 rw[ee] at cq Q
 have H:(out.length:Int)<=l.length:=by omega
 have E:(j:Int)<l.length:=by omega
 have hs:qk l (l.length+1-out.length) x=x::(if e.main=0 then [] else qk l (l.length+1-(out.length+1)) e.main):=by
  have:l.length+1-out.length=(l.length+1-(out.length+1))+1:=by omega
  rw[this];conv=>lhs;unfold qk
  rw[gt (by rw[Q]),Q]
 rw[hs] at L
 have K:=W9 l e.main (by omega)
 by_cases Y:e.main=0
 .rw[gt Y] at L
  rw[<-L];simp+decide[int,aa,zm,H,T,hj,E,ee,cq,Y,aP.row];exact⟨by omega,by unfold maxLen;omega⟩
 .rw[ge Y] at L
  simp+decide[int,aa,zm,H,T,hj,E,ee,cq,Y,aP.row];refine⟨by omega,by unfold maxLen;omega,zg K ?_⟩
  simp+decide[int];exact⟨out++[x],e.main,⟨by rw[nO,pA];exact L,by simp;omega⟩,by simp;omega,rfl,by simp⟩
def jg(l:List aP):List Int->List cC
 | []=>[]
 |x::ws=>if (zF l x).1.aL≠[] then (zF l x).1.aL else jg l ws
theorem Vl(l:List aP):∀ f id,(kj l f id).getD []=jg l (qk l f id)
 |0,_=>rfl
 |f+1,id=>by
  have ih:=Vl l f (zF l id).1.main;unfold kj qk;by_cases h:(zF l id).2=true
  .rw[gt h,gt h]
   by_cases hs:(zF l id).1.aL≠[]
   .rw[gt hs];unfold jg;rw[gt hs];rfl
   .rw[ge hs];unfold jg;rw[ge hs]
    by_cases H:(zF l id).1.main=0
    .rw[gt H,gt H];rfl
    .rw[ge H,ge H];exact ih
  .rw[ge h,ge h];rfl
theorem EN(l:List aP):∀ f id,∀ x∈qk l f id,(zF l x).2=true
 |0,_,x,H=>by cases H
 |f+1,id,x,H=>by
  unfold qk at H;split at H
  .rename_i h
   rcases nE.mp H with H | H
   .rw[H];exact h
   .split at H
    .cases H
    .exact EN l f _ x H
  .cases H
theorem ziz{l:List aP}{ws:List Int}{k:Nat}(h:k<ws.length):jg l (ws.drop k)=if (zF l ws[k]).1.aL≠[] then (zF l ws[k]).1.aL else jg l (ws.drop (k+1)):=by
 rw[nY h];rfl
theorem Gs(l:List aP)(id:Int)(M:l.length<2^40):aq prog 50 [zm l,int id] (zW (xg l id)):=by
 unfold xg
 rw[Vl]
 have O:=EM l id M
 have L:=EL l (l.length+1) id
 have K:=EN l (l.length+1) id
 generalize qk l (l.length+1) id=ws at O L K ⊢
 refine aF func50 ?_
 simp+decide[Tryz.f50,int]
 refine zg O ?_
 simp+decide[aa]
 refine cl (λk:Nat=>{n:=32,next:=1,af:=[(0,.d (zm l)),(5,.d (aa ws)),(6,.d (int k))],own:=[]})
  (λk=>k<=ws.length/\jg l (ws.drop k)=jg l ws) (λk=>ws.length-k) 0 (by simp) (by simp+decide[int,aa]) ?_
 intro k ⟨Q,G⟩
 by_cases H:k<ws.length
 case neg=>
  obtain rfl:k=ws.length:=by omega
  rw[pL] at G;rw[<-G];simp+decide[int,aa,zW,jg]
 have F:=bG H
 have aI:=ziz (l:=l) H
 have E:=K ws[k] (nF H)
 obtain⟨x,ex,e1⟩:=bN H
 rw[ex] at aI E
 have T:=W9 l x (by omega)
 rcases ki l x with⟨V,X⟩ | ⟨j,hj,V,X⟩
 .rw[X] at E;cases E
 rw[V] at T
 obtain⟨e,ee,ej⟩:=bN hj
 rw[ee] at X
 rw[X] at aI
 have J:(j:Int)<l.length:=by omega
 simp+decide[int,aa,H,F,ex,zm]
 refine zg T ?_
 by_cases hs:e.aL=[]
 .rw[ge (by simpa using hs)] at aI
  simp+decide[int,aa,hj,J,ee,hs,aP.row,zW];exact⟨⟨by omega,by omega⟩,k+1,⟨H,by rw[<-aI];exact G⟩,by omega,by simp⟩
 .rw[gt (by simpa using hs)] at aI
  rw[<-G,aI];simp+decide[int,aa,hj,J,ee,hs,aP.row,zW]
theorem zi0(g:aj)(H:dV g.aM)(p:aG):aq prog 104 [g.d,.agg p.row] (int (qE g.aM p)):=by
 have G:=Vk g.aM p.entry (by have:=H.len;omega)
 have F:=Gs g.aM p.entry H.len
 have E:=XN H p.entry
 unfold qE qD
 generalize zF g.aM p.entry=r at G E ⊢
 obtain⟨e,ok⟩:=r
 simp only at G E ⊢
 have K:=Gq e E p.bf
 refine aF func104 ?_
 simp+decide[f104,aj.d,aG.row,int]
 refine zg G ?_
 cases ok with
 |false=>simp+decide[int,aP.row]
 |true=>
  simp+decide[int,aP.row];refine zg K ?_
  by_cases J:0<=p.bf/\p.bf<e.aK.length
  .simp+decide[J]
   refine⟨λh1 L=>absurd L (by omega),λh=>?_⟩
   refine bw F ?_
   have M:¬p.bu<0:=by omega
   by_cases hs:((xg g.aM p.entry).length:Int)<=p.bu
   .simp+decide[zW,M,hs]
   .simp+decide[zW,M,hs]
  .simp+decide[J]
theorem EO(l:List aP)(p:aG):qD l p=if (zF l p.entry).2=true/\(0<=p.bf/\p.bf<(zF l p.entry).1.aK.length) then ((zF l p.entry).1,((zF l p.entry).1.aK[p.bf.toNat]?.getD []),true) else ((zF l p.entry).1,[],false):=rfl
theorem XQ{P:Program}{all:List Oper}{n0:Nat}{vl:List Nat}{K:St->List FK->List (Nat×am)->Prop}{o:Oper}{r:List Oper}{st:St}{ks:List FK}{hs:List (Nat×am)}:
  jc P all n0 vl K (o::r) st ks hs=(YA o.dst st.n=true/\JO P all n0 vl o st hs (λk H=>jc P all n0 vl K r (st.put o.dst k.sym) (k::ks) H)):=rfl
theorem EP(g:aj)(E:dV g.aM)(ps:List aG)(K:ps.length<2^20):aq prog 106 [g.d,zr ps] (aa (yu g.aM ps)):=by
 refine aF func106 ?_
 simp+decide[f106,aj.d,zr,zh,int]
 refine dg (λk:Nat=>{n:=45,next:=4,af:=[(2,.bp 0 0),(3,.bp 1 0),(5,.ar 3),(6,.d (int k))],own:=[(0,.box 36 (zj g.d)),(1,.box 39 [.d (zh ps)]),(3,.aQ 3 1 ((yu g.aM (ps.take k)).map λn=>[int n]))],aA:=[3]}) ps.length (by simp+decide[int,zh,yu,zj,aj.d]) ?_
 intro k J
 by_cases H:k<ps.length
 case neg=>
  obtain rfl:k=ps.length:=by omega
  rw[nH];simp+decide[int,aa,zh]
 have G:=bG H
 have aI:=EB (l:=g.aM) H
 have F:=XO g.aM (ps.take k)
 rw[nR] at F
 obtain⟨p,ep,e1⟩:=bN H
 rw[ep,EO] at aI
 have L:=Vk g.aM p.entry (by have:=E.len;omega)
 have M:=XN E p.entry
 generalize zF g.aM p.entry=r at L M aI
 obtain⟨e,ok⟩:=r
 simp only at L M aI
 have O:=Gq e M p.bf
 simp+decide[int,zh,G,zj,aj.d]
 refine kh 15 [] ?_
 dsimp only[List.take]
 iterate 8 (rw[XQ];simp+decide[-jc,int,aG.row,H,G,ep])
 rw[XQ]
 simp+decide[-jc]
 refine bw L ?_
 simp+decide[-jc]
 iterate 6 (rw[XQ];simp+decide[-jc,int,aP.row])
 refine⟨by rfl,?_⟩
 cases ok with
 |false=>
  simp only[ou,BT,oU,oq] at aI;simp+decide[aa,aB];exact⟨by omega,k+1,H,by omega,by omega,by rw[aI]⟩
 |true=>
  simp+decide[int,aa,aG.row,H,G,ep];refine bw O ?_
  by_cases Q:0<=p.bf/\p.bf<e.aK.length
  .simp only[Q,and_self,oV] at aI
   simp+decide[aB,Q];exact⟨by omega,by unfold maxLen;omega,by omega,k+1,H,by omega,by omega,by rw[aI];simp⟩
  .simp only[tT,Q,ou,oU,oq] at aI
   simp+decide[aB,Q];exact⟨by omega,k+1,H,by omega,by omega,by rw[aI]⟩
theorem Gt(e:aP)(h:e.cm.length<2^40):aq prog 49 [.agg e.row] (yk e.aK):=by
 refine aF func49 ?_
 simp[Tryz.f49,aP.row,yk,aa,aP.aK,maxLen]
 omega
theorem Gu(g:aj)(K:dV g.aM)(ps:List aG)(J:ps.length<2^20):aq prog 107 [g.d,zr ps] (aa (zM g.aM ps)):=by
 refine aF func107 ?_
 simp+decide[f107,aj.d,zr,zh,int]
 refine dg (λk:Nat=>{n:=52,next:=4,af:=[(2,.bp 0 0),(3,.bp 1 0),(5,.ar 3),(6,.d (int k))],own:=[(0,.box 36 (zj g.d)),(1,.box 39 [.d (zh ps)]),(3,.aQ 3 1 ((zM g.aM (ps.take k)).map λn=>[int n]))],aA:=[3]}) ps.length (by simp+decide[int,zh,zM,zj,aj.d]) ?_
 intro k L
 by_cases H:k<ps.length
 case neg=>
  obtain rfl:k=ps.length:=by omega
  rw[nH];simp+decide[int,aa,zh]
 have G:=bG H
 have aI:=EC (l:=g.aM) H
 have E:=XP K (ps.take k)
 rw[nR] at E
 obtain⟨p,ep,e1⟩:=bN H
 rw[ep,EO] at aI
 have M:=Vk g.aM p.entry (by have:=K.len;omega)
 have O:=XN K p.entry
 have F:(0<=p.bf/\p.bf<(zF g.aM p.entry).1.aK.length)->((zF g.aM p.entry).1.aK[p.bf.toNat]?.getD []).length<2^20:=by
  intro h;by_cases Q:(zF g.aM p.entry).2=true
  .have:=Gl K p
   unfold qD at this;rw[gt ⟨Q,h⟩] at this;exact this
  .rcases ki g.aM p.entry with⟨_,T⟩ | ⟨j,hj,_,T⟩
   .rw[T] at h ⊢
    have V:p.bf=0:=by have:=h.2;simp[aP.zero,aP.aK] at this;omega
    rw[V];decide
   .rw[T] at Q;exact absurd rfl Q
 generalize zF g.aM p.entry=r at M O aI F
 obtain⟨e,ok⟩:=r
 simp only at M O aI F
 have X:=Gq e O p.bf
 have Y:=Gt e (by omega)
 simp+decide[int,zh,G,zj,aj.d]
 refine kh 15 [] ?_
 dsimp only[List.take]
 iterate 8 (rw[XQ];simp+decide[-jc,int,aG.row,H,G,ep])
 rw[XQ]
 simp+decide[-jc]
 refine bw M ?_
 simp+decide[-jc]
 iterate 6 (rw[XQ];simp+decide[-jc,int,aP.row])
 refine⟨by rfl,?_⟩
 cases ok with
 |false=>
  simp only[ou,BT,oU,oq] at aI;simp+decide[aa,aB];exact⟨by omega,k+1,H,by omega,by omega,by rw[aI]⟩
 |true=>
  simp+decide[int,aa,aG.row,H,G,ep];refine bw X ?_
  by_cases Z:0<=p.bf/\p.bf<e.aK.length
  .simp only[Z,and_self,oV] at aI
   have V:p.bf.toNat<e.aK.length:=by omega
   obtain⟨w,ew⟩:∃ w,e.aK[p.bf.toNat]=w:=⟨_,rfl⟩;have ew':e.aK[p.bf.toNat]?=some w:=by rw[ac V,ew]
   rw[ew',nW] at aI F;have F:=F Z;simp+decide[Z];refine jH 11 ?_
   simp+decide[int,aG.row,H,G,ep,aB];refine bw Y ?_
   simp+decide[aa,Z,yk,ew,V];exact⟨by omega,by unfold maxLen;omega,⟨by omega,by omega⟩,k+1,H,by omega,by omega,by rw[aI];simp⟩
  .simp only[tT,Z,ou,oU,oq] at aI
   simp+decide[aB,Z];exact⟨by omega,k+1,H,by omega,by omega,by rw[aI]⟩
def yv(S m:Nat):List Bool:=(List.range S).map λq=>m.testBit q
def ya(l:List Bool):D:=.sl (l.map λb=>[.bool b])
@[simp] theorem zu5(S m:Nat):(yv S m).length=S:=by simp[yv]
theorem ZR{S m q:Nat}(h:q<S):(yv S m)[q]?=some (m.testBit q):=by simp[yv,h]
theorem YI{S m q:Nat}(h:q<(yv S m).length):(yv S m)[q]=m.testBit q:=by simp[yv]
theorem Wj(S:Nat):yv S 0=List.replicate S false:=by
 apply rh <;> simp[yv]
theorem Gv(m q j:Nat):(m ||| (1 <<< q)).testBit j=(m.testBit j || decide (q=j)):=by
 rw[rO,wr,BY]
theorem Gw{S m q:Nat}(h:q<S):(yv S m).set q true=yv S (qC m (q:Int)):=by
 apply rh
 .simp
 .intro i H G
  have hi:i<S:=by simpa using G
  rw[xb];unfold qC;simp only[yv,xc,Cl,pR,Gv];by_cases e:q=i
  .subst e;simp
  .simp[e]
structure dK(n:aY):Prop where
 lo:1<=n.az
 hi:n.az<=3
 aw:∀ s∈n.aw,(0<=s.bl/\s.bl<n.az)/\(0<=s.dst/\s.dst<n.az)/\1<=s.cU
 aS:∀ q∈n.aS,0<=q/\q<n.az
 cW:n.aw.length<2^40
 ll:n.aS.length<2^40
theorem dK.ok{n:aY}(h:dK n):Gh n:=by
 refine⟨λs hs=>?_,λq hq=>?_,h.cW,h.ll⟩
 .have:=h.aw s hs;have:=h.hi;omega
 .have:=h.aS q hq;have:=h.hi;omega
theorem Wl(n:aY)(L:dK n)(l:List Int)(M:∀ q∈l,0<=q/\q<n.az)(E:l.length<2^40):
  aq prog 164 [.agg n.cells,aa l] (ya (yv n.az.toNat (yg l))):=by
 have O:=L.lo
 have Q:=L.hi
 refine aF func164 ?_
 simp+decide[f164,aY.cells,int,aa]
 refine⟨by omega,by omega,by unfold maxLen;omega,?_⟩
 refine dg (λk:Nat=>{n:=23,next:=3,af:=[(1,.d (aa l)),(5,.ar 2),(6,.d (int k))],own:=[(2,.aQ 4 1 ((yv n.az.toNat (yg (l.take k))).map λb=>[.bool b]))],aA:=[]}) l.length (by simp+decide[int,aa,yg,Wj]) ?_
 intro k T
 by_cases H:k<l.length
 case neg=>
  obtain rfl:k=l.length:=by omega
  rw[nH];simp+decide[int,aa,ya]
 have G:=bG H
 have V:=M l[k] (nF H)
 have aI:yg (l.take (k+1))=qC (yg (l.take k)) l[k]:=by unfold yg;rw[yh H,oI];rfl
 obtain⟨q,eq,e1⟩:=bN H
 rw[eq] at V aI
 have F:=Gw (S:=n.az.toNat) (m:=yg (l.take k)) (q:=q.toNat) (by omega)
 rw[show((q.toNat:Nat):Int)=q by omega,<-aI] at F
 have K:=ZR (S:=n.az.toNat) (m:=yg (l.take k)) (q:=q.toNat) (by omega)
 have J:(List.map (λb=>[D.bool b]) (yv n.az.toNat (yg (l.take k)))).set q.toNat [D.bool true]=List.map (λb=>[D.bool b]) (yv n.az.toNat (yg (l.take (k+1)))):=by
  rw[<-F,sh]
 simp+decide[int,aa,H,G,eq,V.1,K]
 exact⟨by omega,by omega,⟨by omega,by omega⟩,k+1,H,by omega,by omega,J⟩
def ZS(m:Nat)(c:Int)(out:Nat)(s:dN):Nat:=if kX m s.bl=true/\(c=0\/s.cU=c) then qC out s.dst else out
def xh(l:List dN)(m:Nat)(c:Int):Nat:=l.foldl (ZS m c) 0
theorem ER(n:aY)(O:dK n)(m:Nat)(c:Int):
  aq prog 206 [.agg n.cells,ya (yv n.az.toNat m),int c] (ya (yv n.az.toNat (xh n.aw m c))):=by
 have Q:=O.lo
 have T:=O.hi
 have K:=O.cW
 refine aF func206 ?_
 simp+decide[f206,aY.cells,int,aa,ya]
 refine⟨by omega,by omega,by unfold maxLen;omega,?_⟩
 refine dg (λk:Nat=>{n:=45,next:=3,af:=[(1,.d (ya (yv n.az.toNat m))),(2,.d (int c)),(3,.bp 0 0),(7,.ar 2),(8,.d (int k))],own:=[(0,.box 33 (n.cells.map .d)),(2,.aQ 4 1 ((yv n.az.toNat (xh (n.aw.take k) m c)).map λb=>[.bool b]))],aA:=[]}) n.aw.length (by simp+decide[int,aa,xh,Wj,aY.cells,ya]) ?_
 intro k V
 by_cases H:k<n.aw.length
 case neg=>
  obtain rfl:k=n.aw.length:=by omega
  rw[nH];simp+decide[int,aa,ya,aY.cells,bk]
 have G:=bG H
 have X:=O.aw n.aw[k] (nF H)
 have aI:xh (n.aw.take (k+1)) m c=ZS m c (xh (n.aw.take k) m c) n.aw[k]:=by unfold xh;rw[yh H,oI];rfl
 obtain⟨x,eq,e1⟩:=bN H
 rw[eq] at X aI
 obtain⟨⟨q1,q2⟩,⟨q3,q4⟩,q5⟩:=X
 have Y:=ZR (S:=n.az.toNat) (m:=m) (q:=x.bl.toNat) (by omega)
 have F:=Gw (S:=n.az.toNat) (m:=xh (n.aw.take k) m c) (q:=x.dst.toNat) (by omega)
 rw[show((x.dst.toNat:Nat):Int)=x.dst by omega] at F
 have J:=ZR (S:=n.az.toNat) (m:=xh (n.aw.take k) m c) (q:=x.dst.toNat) (by omega)
 have E:(List.map (λb=>[D.bool b]) (yv n.az.toNat (xh (n.aw.take k) m c))).set x.dst.toNat [D.bool true]=List.map (λb=>[D.bool b]) (yv n.az.toNat (qC (xh (n.aw.take k) m c) x.dst)):=by
  rw[<-F,sh]
 unfold ZS kX at aI
 cases Z:m.testBit x.bl.toNat with
 |false=>
  rw[Z] at Y aI;rw[ge (by simp)] at aI
  simp+decide[int,aa,H,G,eq,q1,Y,ya,aY.cells,bk,dN.row];exact⟨by omega,⟨by omega,by omega⟩,k+1,H,by omega,by omega,by rw[aI]⟩
 |true=>
  rw[Z] at Y aI;by_cases A:c=0\/x.cU=c
  .rw[gt ⟨rfl,A⟩] at aI
   simp+decide[int,aa,H,G,eq,q1,q3,Y,ya,aY.cells,bk,dN.row,J];refine⟨by omega,λB=>⟨λh=>⟨by omega,by omega,⟨by omega,by omega⟩,k+1,H,by omega,by omega,by rw[aI];exact E⟩,λh=>absurd A (by rintro(C | C);exact B C;exact h C)⟩,λB=>⟨by omega,by omega,⟨by omega,by omega⟩,k+1,H,by omega,by omega,by rw[aI];exact E⟩⟩
  .rw[ge (λh=>A h.2)] at aI
   have L:¬c=0:=λh=>A (.inl h)
   have M:¬x.cU=c:=λh=>A (.inr h)
   simp+decide[int,aa,H,G,eq,q1,Y,ya,aY.cells,bk,dN.row,L,M];exact⟨by omega,⟨by omega,by omega⟩,k+1,H,by omega,by omega,by rw[aI]⟩
def vS(S a b:Nat):Bool:=(List.range S).any λq=>a.testBit q&&b.testBit q
theorem Gx(S a b:Nat)(K:S<=3):aq prog 162 [ya (yv S a),ya (yv S b)] (.bool (vS S a b)):=by
 refine aF func162 ?_
 simp+decide[f162,ya]
 refine cl (λk:Nat=>{n:=22,next:=0,af:=[(0,.d (ya (yv S a))),(1,.d (ya (yv S b))),(5,.d (int k))],own:=[],aA:=[]})
  (λk=>k<=S/\∀ j,j<k->(a.testBit j&&b.testBit j)=false) (λk=>S-k) 0 (by simp) (by simp+decide[int,ya]) ?_
 intro k ⟨J,L⟩
 by_cases H:k<S
 case neg=>
  obtain rfl:k=S:=by omega
  have:vS k a b=false:=by
   unfold vS;rw[oB];intro j hj;rw[L j (oc.mp hj)];decide
  rw[this];simp+decide[int,ya]
 have G:(k:Int)<S:=by omega
 have M:=ZR (S:=S) (m:=a) (q:=k) H
 have O:=ZR (S:=S) (m:=b) (q:=k) H
 have E:(a.testBit k&&b.testBit k)=false->∀ j,j<k+1->(a.testBit j&&b.testBit j)=false:=by
  intro h j hj;rcases rA.mp hj with Q | Q
  .exact L j Q
  .rw[Q];exact h
 have F:(a.testBit k&&b.testBit k)=true->vS S a b=true:=by
  intro h;unfold vS;rw[n_];exact⟨k,oc.mpr H,h⟩
 cases T:a.testBit k with
 |false=>
  rw[T] at M;simp+decide[int,H,G,ya,YI,T];exact⟨⟨by omega,by omega⟩,k+1,⟨H,λj hj=>by simpa using E (by rw[T];rfl) j hj⟩,by omega,by omega⟩
 |true=>
  rw[T] at M;cases V:b.testBit k with
  |false=>
   rw[V] at O;simp+decide[int,H,G,ya,YI,T,V];exact⟨⟨by omega,by omega⟩,k+1,⟨H,λj hj=>by simpa using E (by rw[T,V];rfl) j hj⟩,by omega,by omega⟩
  |true=>
   rw[V] at O;rw[F (by rw[T,V];rfl)]
   simp+decide[int,H,G,ya,YI,T,V]
theorem zi1{S m:Nat}{q:Int}(H:m<2^S)(G:0<=q)(F:q<S):qC m q<2^S:=by
 unfold qC
 refine Nat.or_lt_two_pow H ?_
 rw[wr]
 exact Nat.pow_lt_pow_right (by omega) (by omega)
theorem Gy{n:aY}(H:dK n)(m:Nat){c:Int}(G:1<=c):xh n.aw m c=yw n.aw m c:=by
 unfold xh yw
 congr 1
 funext out s
 unfold ZS xG
 have:¬c=0:=by omega
 simp[this]
theorem zf1{n:aY}(H:dK n)(m:Nat){c:Int}(G:c<1):yw n.aw m c=0:=by
 unfold yw
 have key:∀ l:List dN,(∀ s∈l,1<=s.cU)->l.foldl (xG m c) 0=0:=by
  intro l;induction l with
  |nil=>intro _;rfl
  |cons s l ih=>
   intro h;rw[oK];have F:=h s (nL ..);have:xG m c 0 s=0:=by unfold xG;rw[ge (λh=>by omega)]
   rw[this];exact ih λx E=>h x (nG _ E)
 exact key _ λs hs=>(H.aw s hs).2.2
theorem ES{m:Nat}{c:Int}{S:Nat}:∀ (l:List dN) (out:Nat),(∀ s∈l,0<=s.dst/\s.dst<S)->out<2^S->l.foldl (xG m c) out<2^S
 | [],out,_,h=>h
 |s::l,out,H,h=>by
  rw[oK];refine ES l _ (λx G=>H x (nG _ G)) ?_
  have:=H s (nL ..)
  unfold xG;split
  .exact zi1 h this.1 this.2
  .exact h
theorem Gz{n:aY}(H:dK n)(m:Nat)(c:Int):yw n.aw m c<2^n.az.toNat:=
 ES _ _ (λs hs=>by have:=(H.aw s hs).2.1;have:=H.lo;omega) (Nat.two_pow_pos _)
theorem zdj{n:aY}(c:Int):yw n.aw 0 c=0:=by
 unfold yw
 induction n.aw with
 |nil=>rfl
 |cons s l ih=>
  rw[oK];have:xG 0 c 0 s=0:=by unfold xG kX;rw[ge (λh=>by simp at h)]
  rw[this];exact ih
theorem ET{n:aY}:∀ cs:List Int,cs.foldl (λm c=>yw n.aw m c) 0=0
 | []=>rfl
 |c::cs=>by rw[oK,zdj];exact ET cs
theorem znd{n:aY}(H:dK n){cs:List Int}{k:Nat}(G:k<cs.length)(F:cs[k]<1):yr n.aw cs=0:=by
 unfold yr
 have:cs=cs.take k++cs[k]::cs.drop (k+1):=by rw[<-nY G,oT]
 rw[this,oI,oK,zf1 H _ F]
 exact ET _
theorem zne{n:aY}(H:dK n)(cs:List Int):yr n.aw cs<2^n.az.toNat:=by
 unfold yr
 have key:∀ (cs:List Int) (m:Nat),m<2^n.az.toNat->cs.foldl (λm c=>yw n.aw m c) m<2^n.az.toNat:=by
  intro cs;induction cs with
  |nil=>intro m h;exact h
  |cons c cs ih=>intro m h;rw[oK];exact ih _ (Gz H _ _)
 refine key cs 1 ?_
 have:=H.lo
 exact Nat.one_lt_two_pow (by omega)
theorem EU(n:aY)(E:dK n)(l:List Int)(K:l.length<2^40):aq prog 163 [.agg n.cells,aa l] (ya (yv n.az.toNat (yr n.aw l))):=by
 have J:=E.lo
 have L:=E.hi
 have M:=Wl n E [0] (by intro q O;rw[nQ] at O;omega) (by decide)
 have Q:yg [0]=1:=by decide
 rw[Q] at M
 refine aF func163 ?_
 simp+decide[f163,aY.cells,int,aa,ya]
 refine BS (by rfl) M (by simp) ?_
 simp+decide[ya]
 refine dg (λk:Nat=>{n:=32,next:=1,af:=[(1,.d (aa l)),(2,.bp 0 0),(5,.d (ya (yv n.az.toNat (yr n.aw (l.take k))))),(6,.d (int k))],own:=[(0,.box 33 (n.cells.map .d))],aA:=[]}) l.length (by simp+decide[int,aa,yr,ya,aY.cells]) ?_
 intro k T
 by_cases H:k<l.length
 case neg=>
  obtain rfl:k=l.length:=by omega
  rw[nH];simp+decide[int,aa,ya,aY.cells]
 have G:=bG H
 have aI:yr n.aw (l.take (k+1))=yw n.aw (yr n.aw (l.take k)) l[k]:=by unfold yr;rw[yh H,oI];rfl
 have F:=λh=>znd E H h
 obtain⟨c,ec,e1⟩:=bN H
 rw[ec] at aI F
 have V:=ER n E (yr n.aw (l.take k)) c
 by_cases X:c<1
 .rw[F X]
  simp+decide[int,aa,H,G,ec,X,ya,aY.cells,Wj];exact⟨by omega,by omega,by unfold maxLen;omega⟩
 .rw[Gy E _ (by omega),<-aI] at V
  simp+decide[int,aa,H,G,ec,X,ya,aY.cells];refine bw V ?_
  simp+decide[ya];exact⟨⟨by omega,by omega⟩,k+1,H,by omega,rfl,by simp⟩
theorem zi2:∀ (S:Fin 4) (a b:Fin 8),a.val<2^S.val->vS S.val a.val b.val=decide (a.val &&& b.val≠0):=by decide +kernel
theorem za4(n:aY)(E:dK n)(cs:List Int)(K:cs.length<2^40):aq prog 105 [.agg n.cells,aa cs] (.bool (uJ n cs)):=by
 have J:=E.lo
 have L:=E.hi
 have M:=EU n E cs K
 have O:=Wl n E n.aS E.aS E.ll
 have Q:=Gx n.az.toNat (yr n.aw cs) (yg n.aS) (by omega)
 have G:=zne E cs
 have H:yr n.aw cs<8:=pg G (sM (by omega) (show n.az.toNat<=3 by omega))
 have F:=YF n.aS 0 (λq T=>E.ok.2.1 q T) (by omega)
 have heq:vS n.az.toNat (yr n.aw cs) (yg n.aS)=uJ n cs:=by
  unfold uJ;exact zi2 ⟨n.az.toNat,by omega⟩ ⟨_,H⟩ ⟨_,F⟩ G
 rw[heq] at Q
 refine aF func105 ?_
 simp+decide[f105,aY.cells,int,aa]
 refine bw M ?_
 simp+decide[ya]
 refine bw O ?_
 simp+decide[ya]
 refine bw Q ?_
 simp+decide
structure LangL(g:aj):Prop extends LangOk g where
 ml:dK g.bM
theorem EV(g:aj)(Q:LangL g)(ps:List aG)(T:ps.length<2^20):aq prog 46 [g.d,zr ps] (int (qF g ps)):=by
 refine aF func46 ?_
 obtain⟨R,V⟩:∃ R,qF g ps=R:=⟨_,rfl⟩
 rw[V]
 unfold qF at V
 by_cases X:ps.length=0
 .rw[gt X] at V
  subst V;simp+decide[Tryz.f46,aj.d,zr,zh,int,X];done
 rw[ge X] at V
 by_cases Y:4<ps.length
 .rw[gt Y] at V
  subst V;have G:(4:Int)<ps.length:=by omega
  have L:¬(ps.length:Int)=0:=by omega
  simp+decide[Tryz.f46,aj.d,zr,zh,int,X,G];done
 rw[ge Y] at V
 have G:¬(4:Int)<ps.length:=by omega
 have L:¬(ps.length:Int)=0:=by omega
 simp+decide[Tryz.f46,aj.d,zr,zh,int,X,G]
 refine cl (λk:Nat=>{n:=44,next:=2,af:=[(2,.bp 0 0),(3,.bp 1 0),(5,.d (int k))],own:=[(0,.box 36 (zj g.d)),(1,.box 39 [.d (zh ps)])],aA:=[]})
  (λk=>k<=ps.length/\jf g.aM (ps.drop k)=jf g.aM ps) (λk=>ps.length-k) 0 (by simp) (by simp+decide[int,zh,zj,aj.d]) ?_
 intro k ⟨Z,F⟩
 by_cases H:k<ps.length
 case neg=>
  obtain rfl:k=ps.length:=by omega
  rw[pL] at F;rw[<-F] at V;have A:jf g.aM []=0:=rfl
  rw[A,ge (by simp)] at V
  have B:=EP g Q.aM ps T;have C:=Gu g Q.aM ps T;have M:=XO g.aM ps;have I:=za4 g.bM Q.ml (yu g.aM ps) (by omega)
  have O:=XP Q.aM ps;simp+decide[int,zh,zj,aj.d];refine bw B ?_
  simp+decide
  refine bw I ?_
  cases J:uJ g.bM (yu g.aM ps) with
  |false=>
   rw[gt J] at V;subst V;simp+decide
  |true=>
   rw[ge (by rw[J];decide)] at V
   simp+decide
   refine zg C ?_
   by_cases N:24<(zM g.aM ps).length
   .rw[gt N] at V
    subst V;have E:(24:Int)<(zM g.aM ps).length:=by omega
    simp+decide[aa,E]
   .rw[ge N] at V
    subst V;have E:¬(24:Int)<(zM g.aM ps).length:=by omega
    simp+decide[aa,E]
 have K:=bG H
 have aI:=EI (l:=g.aM) H
 rw[F] at aI
 obtain⟨p,ep,e1⟩:=bN H
 rw[ep] at aI
 have P:=zi0 g Q.aM p
 generalize qE g.aM p=r at P aI
 simp+decide[int,zh,aG.row,H,K,ep,zj,aj.d]
 refine bw P ?_
 by_cases S:r=0
 .rw[gt S] at aI
  subst S;simp+decide[int,aB];exact⟨by omega,k+1,⟨H,aI.symm⟩,by omega,by simp⟩
 .rw[ge S] at aI
  have:R=r:=by rw[<-V,aI,gt S]
  subst this;simp+decide[int,S]
theorem EW(inv:List bD)(n:Int)(c:ig)(F:inv.length<2^62):aq prog 261 [.agg [zL inv],int n,.agg c.row] (.bool (jI inv n c)):=by
 refine aF func261 ?_
 simp+decide[f261,int,ig.row]
 refine bw (W8 inv n) ?_
 by_cases hs:xd inv n=true
 .have G:=hs
  simp only[xd,nI,nD] at G;have H:n.toNat-1<inv.length:=by omega
  have e1:inv[n.toNat-1]?=some inv[n.toNat-1]:=ac H
  have e2:¬n<1:=by omega
  simp+decide[zL,hs,H,bD.row,int,aB,jI];omega
 .simp+decide[hs,jI]
theorem EX{inv:List bD}{cs:List ig}{ws:List Int}(h:ws.length=cs.length):wM inv cs ws=true↔∀ j (H:j<cs.length) (G:j<ws.length),jI inv ws[j] cs[j]=true:=by
 unfold wM
 rw[oo]
 constructor
 .intro F j H G
  exact F (ws[j],cs[j]) (by rw[nT];exact⟨j,by simp;omega,by simp⟩)
 .intro F x E
  obtain⟨j,hj,e⟩:=nT.mp E;rw[<-e];simp only[List.length_zip] at hj;simp only[List.getElem_zip];exact F j (by omega) (by omega)
theorem zf2(inv:List bD)(P:inv.length<2^62)(r:bK)(S:RuleFit r)(w:List Int)(W:w.length<2^40)(k:Nat)(hk:k<w.length):
  aq prog 229 [.agg [zL inv],.agg r.row,aa w,int k] (.bool (km inv r w k)):=by
 obtain⟨h1,h2,h3⟩:=S
 obtain⟨x,ex,e1⟩:=bN hk
 have T:(k:Int)<w.length:=by omega
 have hH:=G3 r.bl x (by omega)
 obtain⟨R,hR⟩:∃ R,km inv r w k=R:=⟨_,rfl⟩
 rw[hR]
 unfold km at hR
 rw[e1,nW] at hR
 obtain⟨bl,dst,left,right,fo,ck⟩:=r
 simp only at h1 h2 h3 hH hR
 by_cases L:x∈bl/\left.length<=k/\k+1+right.length<=w.length/\¬(fo=true/\left.length<k)/\¬(ck=true/\k+1+right.length<w.length)
 case neg=>
  refine aF func229 ?_
  simp+decide[f229,int,bK.row,xA,aB];refine⟨by omega,by omega,by omega,?_⟩
  simp+decide[aa,ex,hk,T];refine bw hH ?_
  by_cases hx:x∈bl
  case neg=>
   have:R=false:=by rw[<-hR];simp[hx]
   subst this;simp+decide[hx]
  by_cases hf:left.length<=k
  case neg=>
   have:R=false:=by rw[<-hR];simp[hf]
   subst this;have G:(k:Int)-left.length<0:=by omega
   simp+decide[hx,G]
  have G:¬(k:Int)-left.length<0:=by omega
  by_cases ht:k+1+right.length<=w.length
  case neg=>
   have:R=false:=by rw[<-hR];simp[ht]
   subst this;have F:(w.length:Int)<k+1+right.length:=by omega
   simp+decide[hx,G,F]
  have F:¬(w.length:Int)<k+1+right.length:=by omega
  by_cases hb:fo=true/\left.length<k
  case pos=>
   obtain⟨X,O⟩:=hb;subst X;have:R=false:=by rw[<-hR];simp[O]
   subst this;have K:¬((k:Int)-left.length=0):=by omega
   simp+decide[hx,G,F,K]
  by_cases he:ck=true/\k+1+right.length<w.length
  case pos=>
   obtain⟨Y,Q⟩:=he;subst Y;have:R=false:=by rw[<-hR];simp[Q]
   subst this;have J:¬((k:Int)+1+right.length=w.length):=by omega
   cases fo
   .simp+decide[hx,G,F,J]
   .have K:(k:Int)-left.length=0:=by simp at hb;omega
    simp+decide[hx,F,J,K]
  exact absurd ⟨hx,hf,ht,hb,he⟩ L
 obtain⟨hx,hf,ht,hb,he⟩:=L
 have Z:((w.take k).drop (k-left.length)).length=left.length:=by rw[oO,nR];omega
 have A:((w.take (k+1+right.length)).drop (k+1)).length=right.length:=by rw[oO,nR];omega
 have gL:∀ j (h1:j<left.length),∃ h2,((w.take k).drop (k-left.length))[j]'h2=w[k-left.length+j]'(by omega):=λj h1=>⟨by omega,by rw[rm,sE]⟩
 have gR:∀ j (h1:j<right.length),∃ h2,((w.take (k+1+right.length)).drop (k+1))[j]'h2=w[k+1+j]'(by omega):=λj h1=>⟨by omega,by rw[rm,sE]⟩
 have iL:=EX (inv:=inv) Z
 have iR:=EX (inv:=inv) A
 have O:(fo&&decide (left.length<k))=false:=by
  cases fo
  .rfl
  .simp at hb;simp[hb]
 have Q:(ck&&decide (k+1+right.length<w.length))=false:=by
  cases ck
  .rfl
  .simp at he;simp[he]
 rw[O,Q] at hR
 have hR:R=(wM inv left ((w.take k).drop (k-left.length))&&wM inv right ((w.take (k+1+right.length)).drop (k+1))):=by rw[<-hR];simp[hx,hf,ht]
 refine BR func229 rfl mZ ?_
 let S1:St:={n:=103,next:=2,af:=[(2,.d (aa w)),(3,.d (int k)),(4,.bp 0 0),(5,.bp 1 0),(9,.d (int ((k:Int)-left.length)))],own:=[(0,.box 24 [.d (zL inv)]),(1,.box 90 [.d (aa bl),.d (aa dst),.d (xA left),.d (xA right),.d (.bool fo),.d (.bool ck)])]}
 let S2:St:={n:=103,next:=2,af:=[(2,.d (aa w)),(3,.d (int k)),(4,.bp 0 0),(5,.bp 1 0)],own:=[(0,.box 24 [.d (zL inv)]),(1,.box 90 [.d (aa bl),.d (aa dst),.d (xA left),.d (xA right),.d (.bool fo),.d (.bool ck)])]}
 have G:¬(k:Int)-left.length<0:=by omega
 have F:¬(w.length:Int)<k+1+right.length:=by omega
 refine jb mixed 3 S1 rfl ?_ ?_
 .simp+decide[f229,yo,int,bK.row,xA,aB,S1]
  refine⟨by omega,by omega,by omega,?_⟩
  simp+decide[aa,ex,hk,T];refine bw hH ?_
  have B:fo=true->(k:Int)-left.length=0:=by intro e;subst e;simp at hb;omega
  have V:ck=true->(k:Int)+1+right.length=w.length:=by intro e;subst e;simp at he;omega
  cases fo with
  |false=>
   cases ck with
   |false=>simp+decide[hx,G,F,qL]
   |true=>
    have J:=V rfl;simp+decide[hx,G,J,qL]
  |true=>
   have K:=B rfl;cases ck with
   |false=>simp+decide[hx,F,K,qL]
   |true=>
    have J:=V rfl;simp+decide[hx,K,J,qL]
 refine cy ?_
 simp+decide[f229,yK,int,aa,xA,S1]
 refine cl (λj:Nat=>{n:=103,next:=2,af:=[(2,.d (aa w)),(3,.d (int k)),(4,.bp 0 0),(5,.bp 1 0),(9,.d (int ((k:Int)-left.length))),(62,.d (int left.length)),(63,.d (int j))],own:=[(0,.box 24 [.d (zL inv)]),(1,.box 90 [.d (aa bl),.d (aa dst),.d (xA left),.d (xA right),.d (.bool fo),.d (.bool ck)])]})
  (λj=>j<=left.length/\∀ i (h1:i<left.length) (h2:i<j),jI inv (w[k-left.length+i]'(by omega)) left[i]=true) (λj=>left.length-j) 0 (by simp) (by simp+decide[int,aa,xA]) ?_
 intro j ⟨hj,hp⟩
 by_cases H:j<left.length
 .have E:=bG H
  obtain⟨h2,gv⟩:=gL j H;have N:=hp;obtain⟨c,ec,ec1⟩:=bN H;have M:k-left.length+j<w.length:=by omega
  obtain⟨y,ey⟩:∃ y,w[k-left.length+j]=y:=⟨_,rfl⟩;have ey1:w[k-left.length+j]?=some y:=by rw[ac M,ey]
  have ix:(k:Int)-left.length+j=((k-left.length+j:Nat):Int):=by omega
  have hI:=EW inv y c P;have ixT:((k:Int)-left.length+j).toNat=k-left.length+j:=by omega
  have ix0:0<=(k:Int)-left.length+j:=by omega
  have ix1:(k:Int)-left.length+j<w.length:=by omega
  simp+decide[int,aa,xA,H,E,ec,ixT,ix0,ix1,M,ey,ig.row,aB];refine⟨by omega,?_⟩
  refine bw hI ?_
  cases hc:jI inv y c with
  |false=>
   have:R=false:=by
    rw[hR,pX];left
    rw[rV,Ne,iL];intro hh;have:=hh j H h2
    rw[gv,ey,ec,hc] at this;cases this
   subst this;simp+decide
  |true=>
   simp+decide
   refine⟨⟨by omega,by omega⟩,j+1,⟨H,λi h1 h2=>?_⟩,by omega,by simp⟩
   rcases rA.mp h2 with h' | h'
   .exact hp i h1 h'
   .subst h'
    rw[ey,ec];exact hc
 .obtain rfl:j=left.length:=by omega
  have C:wM inv left ((w.take k).drop (k-left.length))=true:=by
   rw[iL];intro i h1 h2;obtain⟨h3,gv⟩:=gL i h1;rw[gv];exact hp i h1 h1
  rw[C,pK] at hR;simp+decide[int,aa,xA];refine cl (λj:Nat=>{n:=103,next:=2,af:=[(2,.d (aa w)),(3,.d (int k)),(4,.bp 0 0),(5,.bp 1 0),(83,.d (int right.length)),(84,.d (int j))],own:=[(0,.box 24 [.d (zL inv)]),(1,.box 90 [.d (aa bl),.d (aa dst),.d (xA left),.d (xA right),.d (.bool fo),.d (.bool ck)])]})
   (λj=>j<=right.length/\∀ i (h1:i<right.length) (h2:i<j),jI inv (w[k+1+i]'(by omega)) right[i]=true) (λj=>right.length-j) 0 (by simp) (by simp+decide[int,aa,xA]) ?_
  intro j ⟨hj,hp⟩;by_cases H:j<right.length
  .have E:=bG H
   obtain⟨h2,gv⟩:=gR j H;obtain⟨c,ec,ec1⟩:=bN H;have M:k+1+j<w.length:=by omega
   obtain⟨y,ey⟩:∃ y,w[k+1+j]=y:=⟨_,rfl⟩;have ey1:w[k+1+j]?=some y:=by rw[ac M,ey]
   have hI:=EW inv y c P;have ixT:((k:Int)+1+j).toNat=k+1+j:=by omega
   have ix0:0<=(k:Int)+1+j:=by omega
   have ix1:(k:Int)+1+j<w.length:=by omega
   simp+decide[int,aa,xA,H,E,ec,ixT,ix0,ix1,M,ey,ig.row,aB];refine⟨by omega,by omega,?_⟩
   refine bw hI ?_
   cases hc:jI inv y c with
   |false=>
    have:R=false:=by
     rw[hR,rV,Ne,iR];intro hh;have:=hh j H h2
     rw[gv,ey,ec,hc] at this;cases this
    subst this;simp+decide
   |true=>
    simp+decide
    refine⟨⟨by omega,by omega⟩,j+1,⟨H,λi h1 h2=>?_⟩,by omega,by simp⟩
    rcases rA.mp h2 with h' | h'
    .exact hp i h1 h'
    .subst h'
     rw[ey,ec];exact hc
  .obtain rfl:j=right.length:=by omega
   have I:wM inv right ((w.take (k+1+right.length)).drop (k+1))=true:=by
    rw[iR];intro i h1 h2;obtain⟨h3,gv⟩:=gR i h1;rw[gv];exact hp i h1 h1
   have:R=true:=by rw[hR,I]
   subst this;simp+decide[int,aa,xA]
structure gE(r:bK):Prop extends RuleOk r where
 mJ:r.bl.Nodup
def gp(w:List Int):Prop:=∀ x∈w,x≠0
theorem zdk(inv:List bD)(I:inv.length<2^62)(r:bK)(N:gE r)(w:List Int)(P:w.length<2^40)(S:gp w):
  aq prog 196 [.agg [zL inv],.agg r.row,aa w] (aa (uM inv r w)):=by
 rw[<-Gp]
 refine aF func196 ?_
 simp+decide[f196,aa,bK.row]
 refine dg (λk:Nat=>{n:=55,next:=4,af:=[(2,.d (aa w)),(3,.bp 0 0),(4,.bp 1 0),(7,.ar 3),(12,.d (int w.length)),(13,.d (int k))],own:=[(0,.box 24 [.d (zL inv)]),(1,.box 90 (r.row.map .d)),(3,.aQ 3 1 ((kY inv r w k).map λn=>[int n]))],aA:=[3]}) w.length (by simp+decide[int,aa,bK.row,kY]) ?_
 intro k W
 by_cases H:k<w.length
 case neg=>
  obtain rfl:k=w.length:=by omega
  simp+decide[int,aa]
 have F:=bG H
 have aI:=Gn (inv:=inv) (r:=r) H
 have V:=Wi inv r w k W
 have hS:=zf2 inv I r N.toRuleFit w P k H
 have Q:=S w[k] (nF H)
 obtain⟨x,ex,e1⟩:=bN H
 rw[ex] at aI Q
 have E:=Gm r.bl x
 have L:x∈r.bl->∃ j:Nat,∃ hj:j<r.bl.length,uL r.bl x=j/\r.bl[j]=x:=by
  intro hx;unfold uL at E ⊢;cases hq:r.bl.findIdx? (· = x) with
  |none=>rw[hq] at E;exact absurd (E.2 hx) (by decide)
  |some j=>
   rw[oN] at hq;exact⟨j,hq.1,rfl,by simpa using hq.2.1⟩
 have K:km inv r w k=true->x∈r.bl:=by
  intro h;unfold km at h;simp only[nI,nD] at h;have:=h.1.1.1.1.1.1
  rwa [e1,nW] at this
 have X:=N.dst
 have B:=N.bl
 unfold Z9 at aI
 simp+decide[int,aa,bK.row,H,F,ex]
 refine zg hS ?_
 cases hb:km inv r w k with
 |false=>
  rw[hb] at aI;simp only[ou,oU] at aI;simp+decide[aB,Q];exact⟨by omega,by unfold maxLen;omega,by omega,k+1,H,by omega,by omega,by rw[aI];simp⟩
 |true=>
  rw[hb] at aI;simp only[oV] at aI;obtain⟨j,hj,ej,exj⟩:=L (K hb);have Y:j<r.dst.length:=by omega
  obtain⟨y,ey,e2⟩:=bN Y;rw[ej,pR,e2,nW] at aI;have C:(j:Int)<r.dst.length:=by omega
  simp+decide
  refine dg (λm:Nat=>{n:=55,next:=4,af:=[(2,.d (aa w)),(3,.bp 0 0),(4,.bp 1 0),(7,.ar 3),(8,.d (int k)),(9,.d (int (if j<m then y else x))),(12,.d (int w.length)),(13,.d (int k)),(27,.d (int r.bl.length)),(28,.d (int m))],own:=[(0,.box 24 [.d (zL inv)]),(1,.box 90 (r.row.map .d)),(3,.aQ 3 1 ((kY inv r w k).map λn=>[int n]))],aA:=[3]}) r.bl.length (by simp+decide[int,aa,bK.row]) ?_
  intro m hm;by_cases G:m<r.bl.length
  .have J:=bG G
   have Z:m<r.dst.length:=by omega
   have M:(m:Int)<r.dst.length:=by omega
   obtain⟨z,ez,ez1⟩:=bN G;by_cases T:m=j
   .subst T
    have O:z=x:=by rw[<-ez,exj]
    subst O;simp+decide[int,aa,bK.row,aB,G,J,H,F,ex,ez,Z,M,ey];exact⟨by omega,m+1,G,by omega,λh=>absurd h (by omega),by omega⟩
   .have O:¬z=x:=by
     intro h;have hp:=od.mp N.mJ;rcases tU T with h' | h'
     .exact hp m j G hj h' (by rw[ez,exj,h])
     .exact hp j m hj G h' (by rw[ez,exj,h])
    have A:(j<m+1)↔(j<m):=by omega
    simp+decide[int,aa,bK.row,aB,G,J,H,F,ex,ez,O];exact⟨by omega,m+1,G,by omega,by simp only[A],by omega⟩
  .obtain rfl:m=r.bl.length:=by omega
   by_cases hy:y=0
   .rw[gt hy,oq] at aI
    simp+decide[int,aa,bK.row,hj,hy,aB];exact⟨by omega,k+1,H,by omega,by omega,by rw[aI]⟩
   .rw[ge hy] at aI
    simp+decide[int,aa,bK.row,hj,hy,aB];exact⟨by omega,by unfold maxLen;omega,by omega,k+1,H,by omega,by omega,by rw[aI];simp⟩
theorem zqx{inv:List bD}{r:bK}{w:List Int}{k:Nat}{x:Int}(H:x≠0):gp (Z9 inv r w k x):=by
 unfold Z9 gp
 intro y G
 split at G
 .split at G
  .cases G
  .rename_i h;rw[nQ] at G;rw[G];exact h
 .rw[nQ] at G;rw[G];exact H
theorem zi3{inv:List bD}{r:bK}{w:List Int}(H:gp w):gp (uM inv r w):=by
 intro y G
 unfold uM at G
 rw[xv] at G
 obtain⟨l,F,G⟩:=G
 rw[nS] at F
 obtain⟨⟨a,i⟩,E,rfl⟩:=F
 refine zqx (H a ?_) y G
 exact(List.mem_zipIdx' E).2▸nF _
theorem EY{inv:List bD}:∀ (rs:List bK) {w:List Int},gp w->gp (xH inv rs w)
 | [],_,h=>h
 |r::rs,w,h=>by
  have:=EY (inv:=inv) rs (zi3 (inv:=inv) (r:=r) h)
  exact this
theorem zf3(inv:List bD)(K:inv.length<2^62)(rs:List bK)(J:∀ r∈rs,gE r)(L:rs.length<2^40)(w:List Int)(M:w.length<2^40)(O:gp w):
  aq prog 141 [.agg [zL inv],yF rs,aa w] (aa (xH inv rs w)):=by
 refine aF func141 ?_
 simp+decide[f141,aa,yF]
 refine dg (λk:Nat=>{n:=22,next:=2,af:=[(1,.d (yF rs)),(2,.d (aa (xH inv (rs.take k) w))),(3,.bp 0 0),(9,.d (int rs.length)),(10,.d (int k))],own:=[(0,.box 24 [.d (zL inv)])],aA:=[]}) rs.length (by simp+decide[int,aa,yF,xH]) ?_
 intro k Q
 by_cases H:k<rs.length
 case neg=>
  obtain rfl:k=rs.length:=by omega
  rw[nH];simp+decide[int,aa,yF]
 have G:=bG H
 have aI:xH inv (rs.take (k+1)) w=uM inv rs[k] (xH inv (rs.take k) w):=by unfold xH;rw[yh H,oI];rfl
 have E:=YH inv (rs.take k) w
 have F:=EY (inv:=inv) (rs.take k) O
 have T:=J rs[k] (nF H)
 obtain⟨r,er,e1⟩:=bN H
 rw[er] at aI T
 generalize xH inv (rs.take k) w=u at aI E F
 have V:=zdk inv K r T u (by omega) F
 simp+decide[int,aa,yF,H,G,er,bK.row]
 refine bw V ?_
 simp+decide[aa]
 exact⟨⟨by omega,by omega⟩,k+1,H,by omega,by rw[aI],by simp⟩
structure j_(g:aj):Prop extends LangL g where
 lF:∀ r∈g.ba,gE r
 nz:∀ e∈g.aM,∀ w∈e.aK,gp w
theorem znf{g:aj}(G:j_ g)(ps:List aG):gp (zM g.aM ps):=by
 intro x F
 unfold zM at F
 rw[po] at F
 obtain⟨p,_,F⟩:=F
 split at F
 .rename_i hf
  unfold qD at F hf;split at F
  .rename_i E
   simp only at F
   obtain⟨c1,c2,c3⟩:=E;have H:p.bf.toNat<(zF g.aM p.entry).1.aK.length:=by omega
   rw[ac H,nW] at F;exact G.nz _ (YG c1) _ (nF H) x F
  .cases F
 .cases F
theorem zbz(g:aj)(E:j_ g)(ps:List aG)(K:ps.length<2^20):aq prog 83 [g.d,zr ps] (.bE [aa (qj g ps).1,int (qj g ps).2]):=by
 have J:=EV g E.toLangL ps K
 have L:=Gu g E.aM ps K
 have H:qF g ps=0->(zM g.aM ps).length<2^40:=by
  intro h;unfold qF at h;repeat' split at h
  all_goals first | omega | skip
 have M:=λh=>zf3 g.inv (by have:=E.inv;omega) g.ba E.lF E.ba.2 (zM g.aM ps) (H h) (znf E ps)
 have G:=YH g.inv g.ba (zM g.aM ps)
 unfold qj
 generalize qF g ps=R at J M H ⊢
 refine aF func83 ?_
 simp+decide[f83,int,aj.d,zr]
 refine zg J ?_
 by_cases O:R=0
 .subst O
  have M:=M rfl;have H:=H rfl;generalize xH g.inv g.ba (zM g.aM ps)=v at M G ⊢;simp+decide[int];refine bw L ?_
  simp+decide[aa];refine bw M ?_
  by_cases Q:v.length=0
  .simp+decide[aa,pN.mp Q]
  .have F:v≠[]:=λh=>Q (by rw[h];rfl)
   simp+decide[aa,Q,F]
 .simp+decide[int,aa,O]
theorem GF(a b:List Int)(L:a.length<2^62)(M:b.length<2^62):aq prog 84 [aa a,aa b] (.bool (decide (a=b))):=by
 refine aF func84 ?_
 by_cases O:a.length=b.length
 case neg=>
  have:¬a=b:=λh=>O (by rw[h])
  have J:¬(a.length:Int)=b.length:=by omega
  simp+decide[f84,aa,J,this]
 have J:(a.length:Int)=b.length:=by omega
 simp+decide[f84,aa,O]
 refine cl (λk:Nat=>{n:=26,next:=0,af:=[(0,.d (aa a)),(1,.d (aa b)),(12,.d (int b.length)),(13,.d (int k))],own:=[],aA:=[]})
  (λk=>k<=a.length/\a.take k=b.take k) (λk=>a.length-k) 0 (by simp) (by simp+decide[int,aa]) ?_
 intro k ⟨Q,T⟩
 by_cases H:k<a.length
 case neg=>
  obtain rfl:k=a.length:=by omega
  rw[nH,O,nH] at T;subst T;simp+decide[int,aa]
 have G:=bG H
 have E:k<b.length:=by omega
 have F:(k:Int)<b.length:=by omega
 obtain⟨x,ex⟩:∃ x,a[k]=x:=⟨_,rfl⟩
 obtain⟨y,ey⟩:∃ y,b[k]=y:=⟨_,rfl⟩
 have ex1:a[k]?=some x:=by rw[ac H,ex]
 have ey1:b[k]?=some y:=by rw[ac E,ey]
 by_cases K:x=y
 .subst K
  simp+decide[int,aa,H,G,E,F,ex,ey];exact⟨⟨by omega,by omega⟩,k+1,⟨H,by rw[yh H,yh E,T,ex,ey]⟩,by omega,by omega⟩
 .have:¬a=b:=by
   intro h;subst h;exact K (by rw[<-ex,<-ey])
  simp+decide[int,aa,H,G,E,F,ex,ey,K,this]
def jh(g:aj)(w:List Int)(ps:List aG):Bool:=decide ((qj g ps).2=0/\(qj g ps).1=w)
theorem zi4{g:aj}(ps:List aG):(qj g ps).1.length<=(zM g.aM ps).length:=by
 unfold qj
 have:=YH g.inv g.ba (zM g.aM ps)
 repeat' split
 all_goals simp;try omega
theorem GG(g:aj)(H:j_ g)(w:List Int)(G:w.length<2^40)(ps:List aG)(F:ps.length<2^20):aq prog 35 [g.d,aa w,zr ps] (.bool (jh g w ps)):=by
 have E:=zbz g H ps F
 have K:=zi4 (g:=g) ps
 have J:=XP H.aM ps
 have L:=GF (qj g ps).1 w (by omega) (by omega)
 unfold jh
 generalize qj g ps=q at E L ⊢
 obtain⟨v,e⟩:=q
 refine aF func35 ?_
 simp+decide[f35,int,aj.d,zr]
 refine zg E ?_
 by_cases M:e=0
 .subst M
  simp+decide[int,aa];refine zg L ?_
  simp+decide
 .simp+decide[int,aa,M]
end Go.V
namespace Go.V
open Go Go.Proofs Go.RowKit Go.WideShapes Tryz
mutual
def gO(M:Nat):D->Prop
 |.str b=>b.size<=M
 |.sl l=>l.length<=M/\ZT M l
 |_=>True
def ZT(M:Nat):List (List D)->Prop
 | []=>True
 |r::rs=>cG M r/\ZT M rs
def cG(M:Nat):List D->Prop
 | []=>True
 |d::ds=>gO M d/\cG M ds
end
def jK(M:Nat):D->Prop
 |.agg l=>cG M l
 |d=>gO M d
theorem zqy{M:Nat}{d:D}(h:gO M d):(∀ l,d≠.agg l)->jK M d:=by
 intro H
 cases d <;> first | exact h | exact absurd rfl (H _)
theorem cG.fC{M:Nat}:∀ {a b:List D},cG M a->cG M b->cG M (a++b)
 | [],b,_,h=>h
 |d::a,b,h,H=>by
  simp only[cG,nV] at h ⊢;exact⟨h.1,cG.fC h.2 H⟩
theorem EZ{M:Nat}:∀ {l:List (List D)},(∀ i (h:i<l.length),cG M l[i])->ZT M l
 | [],_=>by simp[ZT]
 |r::rs,h=>by
  simp only[ZT];exact⟨h 0 (by simp),EZ λi hi=>h (i+1) (by simp;omega)⟩
structure iE{H:Type}(bulk:DataW H->Nat):Prop where
 str:∀ bytes,bytes.length<=bulk (.lit (.string bytes))
 sl:∀ es aC,es.length<=bulk (.slice es aC)
 el:∀ es aC e,e∈es->bulk e<=bulk (.slice es aC)
 part:∀ ps p,p∈ps->bulk p<=bulk (.agg ps)
section
variable {H:Type} {cv:TypeId×Value->H} {P:Program} {w:World} {ai:Nat} {spare:Nat->Bool} {held:Bool} {bulk:DataW H->Nat}
theorem H3{g:Nat->Option (List Sh)}{m:Nat}{cs:List Value}{M:Nat}
  (Q:∀ (f:Field) (l:List Sh),g f.type=some l->∀ x,DataW.trod cv P w ai spare held m f.type ((cs.drop f.offset).take (P.cellsOf f.type))=some x->bulk x.1<=M->∃ ds,y9 ds l/\cG M ds/\zl w Ez ds ((cs.drop f.offset).take (P.cellsOf f.type))) :
  ∀ (fs:List Field) (off:Nat) (shs:List Sh),Vi g P fs off=some shs->off+shs.length=cs.length ->
   (∀ f∈fs,∃ x,DataW.trod cv P w ai spare held m f.type ((cs.drop f.offset).take (P.cellsOf f.type))=some x/\bulk x.1<=M)->∃ ds,y9 ds shs/\cG M ds/\zl w Ez ds (cs.drop off)
 | [],off,shs,h,T,_=>by
  simp only[Vi,pB] at h;subst h;simp at T
  exact⟨[],by simp[y9],by simp[cG],by simp[zl,pJ,T]⟩
 |f::r,off,shs,h,T,V=>by
  simp only[Vi] at h;split at h
  .rename_i ho
   split at h
   .rename_i l E
    split at h
    .rename_i hlen
     split at h
     .rename_i m' X
      cases h;obtain⟨x,Y,K⟩:=V f (by simp)
      obtain⟨ds,J,L,O⟩:=Q f l E x Y K;obtain⟨ds',H,G,F⟩:=H3 Q r (off+l.length) m' X (by simp at T;omega) λf' hf'=>V f' (by simp[hf'])
      refine⟨ds++ds',J.fC H,L.fC G,?_⟩
      have e:cs.drop off=(cs.drop off).take (P.cellsOf f.type)++cs.drop (off+l.length):=by
       rw[hlen,<-tV,oT]
      rw[e];subst ho;exact O.fC F
     .cases h
    .cases h
   .cases h
  .cases h
theorem GH(S:iE bulk){M:Nat}:∀ (fuel n t:Nat) (shs:List Sh) (cs:List Value) (x:DataW H×List MemPlace),cE P n t=some shs->DataW.trod cv P w ai spare held fuel t cs=some x->bulk x.1<=M ->
  ∃ ds,y9 ds shs/\cG M ds/\zl w Ez ds cs
 |0,_,_,_,_,_,_,h,_=>by simp[DataW.trod] at h
 |fuel+1,n,t,shs,cs,x,hs,h,W=>by
  cases n with
  |zero=>simp[cE] at hs
  |succ n=>
  simp only[cE] at hs;split at hs
  .rename_i k ht
   cases hs;obtain⟨m,rfl,_,hw⟩:=DataW.trod_int ht h;exact⟨[.int k m],by simp[y9,yP,hw],by simp[cG,gO],by simp only[zl,R];exact⟨_,_,rfl,rfl,rfl,rfl⟩⟩
  .rename_i ht
   cases hs;obtain⟨b,rfl,_⟩:=DataW.trod_bool ht h;exact⟨[.bool b],by simp[y9,yP],by simp[cG,gO],by simp only[zl,R];exact⟨_,_,rfl,rfl,rfl,rfl⟩⟩
  .rename_i ht
   cases hs;obtain⟨s,rfl,rfl,hw⟩:=DataW.trod_string ht h;have Q:=S.str s.data.toList;have e0:s.data.toList.length=s.size:=by rw[oM];rfl
   exact⟨[.str s],by simp[y9,yP,hw],by simp only[cG,gO,tW];simp only at W;omega,by simp only[zl,R];exact⟨_,_,rfl,rfl,rfl,rfl⟩⟩
  .rename_i e ht
   split at hs
   .rename_i l hl
    split at hs
    .rename_i hlen
     cases hs;rcases DataW.trod_slice ht h with⟨rfl,_⟩ | ⟨a,len,cap,elems,aC,m,hm,rfl,rfl,_,C,Y,I,K,_⟩
     .exact⟨[.sl []],by simp[y9,yP,uH],by simp[cG,gO,ZT],by simp only[zl,R];exact⟨_,_,rfl,rfl,⟨none,0,rfl,by simp,by simp,λ_=>rfl,λh=>absurd rfl h⟩,rfl⟩⟩
     .cases hm
      have cellf:∀ i,i<len->∃ cs' x',w.cells? ai (a.add (i*P.cellsOf e)) (P.cellsOf e)=some cs'/\DataW.trod cv P w ai spare held fuel e cs'=some x'/\bulk x'.1<=M:=by
       intro i hi;have h1:=K i hi;have h2:elems[i]?=some (elems[i]'(by omega)):=ac (by omega)
       rw[h2,Option.bind_eq_some_iff] at h1;obtain⟨cs',J,L⟩:=h1;exact⟨cs',_,J,L,oC (S.el _ _ _ (nS.mpr ⟨_,nF _,rfl⟩)) W⟩
      have E:0<len->a.spot=none/\a.block<w.heap.size:=by
       intro hp;obtain⟨cs',_,J,_,_⟩:=cellf 0 hp;obtain⟨_,T,G⟩:=World.cells?_some J;have c0:=G 0 (by omega)
       have:cs'[0]?=some (cs'[0]'(by omega)):=ac (by omega)
       rw[this] at c0;exact⟨by simpa[Addr.add] using World.cell?_spot c0,by simpa[Addr.add] using lU c0⟩
      have d_:∀ i,i<len->∃ ds,(y9 ds l/\cG M ds)/\zZ w Ez a.block ds (a.off+i*P.cellsOf e):=by
       intro i hi;obtain⟨q3,q4⟩:=E (by omega)
       obtain⟨cs',x',J,L,O⟩:=cellf i hi;obtain⟨ds,hf,Z,hr⟩:=GH S fuel n e l cs' _ hl L O;obtain⟨_,T,G⟩:=World.cells?_some J;refine⟨ds,⟨hf,Z⟩,Ei hr λj hj=>?_⟩
       have:=G j (by rw[hr.len] at hj;omega)
       rw[<-this];obtain⟨ab,ao,asp⟩:=a;subst q3;rw[add_plain,add_plain]
      obtain⟨rows,V,F⟩:=Em len d_;have A:=S.sl (elems.map (·.1)) (aC.map (·.1));rw[om] at A;refine⟨[.sl rows],by simp[y9,yP,V,Ek λi hi=>(F i hi).1.1];omega,by simp only[cG,gO,tW];exact⟨by simp only at W;omega,EZ λi hi=>(F i hi).1.2⟩,?_⟩
      simp only[zl,R];refine⟨_,_,rfl,rfl,⟨some a,cap,by rw[V],by omega,Y,λh=>by simp at h,λX=>?_⟩,rfl⟩
      have h0:0<rows.length:=r_.2 X
      obtain⟨q1,q2⟩:=F 0 h0;obtain⟨q3,q4⟩:=E (by omega)
      have Q:dh rows=P.cellsOf e:=by
       cases hr:rows with
       |nil=>exact absurd hr X
       |cons r rs => 
        subst hr;simp only[dh];have:=q1.1.len
        simp at this
        omega
      refine⟨a.block,a.off,?_,λh=>h,q4,?_⟩
      .obtain⟨ab,ao,asp⟩:=a
       subst q3;rfl
      .rw[Q]
       exact Ej λi hi=>⟨by rw[(F i hi).1.1.len];exact hlen.1,(F i hi).2⟩
    .cases hs
   .cases hs
  .rename_i fs ht
   split at hs
   .rename_i l hl
    split at hs
    .rename_i hlen
     cases hs;obtain⟨xs,m,hm,B,T,N,hx⟩:=DataW.trod_struct ht h;cases hm;have:=H3 (bulk:=bulk) (M:=M) (g:=cE P n) (m:=fuel) (cs:=cs) (P:=P) (w:=w) (cv:=cv) (ai:=ai) (spare:=spare) (held:=held) (λf l' hf x hx O=>GH S fuel n f.type l' _ x hf hx O) fs.toList 0 shs hl (by omega) ?_
     .simpa using this
     .intro f hf
      obtain⟨i,hi,rfl⟩:=List.getElem_of_mem hf;have h1:=hx i fs[i] (by simp at hi;simp[hi])
      rw[ac (by simp at hi;omega)] at h1
      refine⟨_,by simpa using h1,oC (S.part _ _ (nS.mpr ⟨_,nF _,rfl⟩)) (by rw[B] at W;exact W)⟩
    .cases hs
   .cases hs
  .cases hs
theorem zqz(K:iE bulk){M:Nat}{n t:Nat}{v:Value}{d:DataW H}{ps:List MemPlace}{r:Reach}{b0:Nat}(hs:(cE P n t).isSome=true)(J:Value.okWide P w r b0 t v)(h:DataW.Trod cv P w ai spare held t v d ps)(L:bulk d<=M):
  ∃ x,W6 P n t x/\jK M x/\R w Ez x v:=by
 obtain⟨fuel,O⟩:=h
 cases Q:cE P n t with
 |none=>simp[Q] at hs
 |some shs=>
 obtain⟨ds,T,V,X⟩:=GH K fuel n t shs _ _ Q O L
 unfold W6
 cases n with
 |zero=>simp[cE] at Q
 |succ n=>
 have G:=Q
 simp only[cE] at Q
 have bZ:∀ s,shs=[s]->v.cells = #[v]->∃ x,(yP x s/\jK M x)/\R w Ez x v:=by
  intro s e E;subst e;rw[E] at X;cases ds with
  |nil=>simp[y9] at T
  |cons d ds=>
   simp only[zl] at X;obtain⟨u,us,e,_,Y,_⟩:=X;simp only[y9] at T;obtain⟨s',r',e',F,_⟩:=T;cases e'
   simp at e
   obtain⟨rfl,rfl⟩:=e;simp only[cG] at V;exact⟨d,⟨F,zqy V.1 (by intro l e;subst e;simp[yP] at F)⟩,Y⟩
 split at Q
 .rename_i k Z
  cases Q;obtain⟨m,rfl⟩:=okWide_int Z J;obtain⟨x,A⟩:=bZ _ rfl rfl;exact⟨x,by rw[Z];exact⟨_,G,A.1.1⟩,A.1.2,A.2⟩
 .rename_i Z
  cases Q;obtain⟨m,rfl⟩:=okWide_bool Z J;obtain⟨x,A⟩:=bZ _ rfl rfl;exact⟨x,by rw[Z];exact⟨_,G,A.1.1⟩,A.1.2,A.2⟩
 .rename_i Z
  cases Q;obtain⟨m,rfl⟩:=okWide_string Z J;obtain⟨x,A⟩:=bZ _ rfl rfl;exact⟨x,by rw[Z];exact⟨_,G,A.1.1⟩,A.1.2,A.2⟩
 .rename_i e Z
  split at Q
  .split at Q
   .cases Q
    obtain⟨a,len,cap,rfl⟩:=okWide_slice Z J;obtain⟨x,A⟩:=bZ _ rfl rfl;exact⟨x,by rw[Z];exact⟨_,G,A.1.1⟩,A.1.2,A.2⟩
   .cases Q
  .cases Q
 .rename_i fs Z
  obtain⟨cs,rfl,_⟩:=okWide_struct Z J;refine⟨.agg ds,by rw[Z];exact⟨ds,shs,rfl,G,T⟩,by simp only[jK];exact V,?_⟩
  simp only[R];exact⟨cs.toList,by simp,X⟩
 .cases Q
theorem H4(O:iE bulk){M:Nat}{n:Nat}{r:Reach}{b0:Nat}:∀ {ts:List Nat} {vs:List Value} {ds:List (DataW H)} {ps:List MemPlace},(∀ t∈ts,(cE P n t).isSome=true) ->
  (∀ (j:Nat) (t:Nat) (v:Value),ts[j]?=some t->vs[j]?=some v->Value.okWide P w r b0 t v)->DataW.TrodAll cv P w ai spare held ts vs ds ps->(∀ d∈ds,bulk d<=M)->∃ xs,XL P n ts xs/\(∀ x∈xs,jK M x)/\zI w Ez xs vs
 | [],vs,ds,ps,_,_,h,_=>by
  cases vs with
  |nil=>exact⟨[],by simp[XL],by simp,by simp[zI]⟩
  |cons v vs=>cases ds <;> simp[DataW.TrodAll] at h
 |t::ts,vs,ds,ps,hs,Q,h,T=>by
  cases vs with
  |nil=>cases ds <;> simp[DataW.TrodAll] at h
  |cons v vs=>
   cases ds with
   |nil=>simp[DataW.TrodAll] at h
   |cons d ds=>
    simp only[DataW.TrodAll] at h;obtain⟨p,q,V,X,_⟩:=h;obtain⟨x,G,F,E⟩:=zqz O (hs t (by simp)) (Q 0 t v rfl rfl) V (T d (by simp))
    obtain⟨xs,K,J,L⟩:=H4 O (ts:=ts) (λt Y=>hs t (by simp[Y])) (λj t v h Z=>Q (j+1) t v (by simpa using h) (by simpa using Z)) X (λd A=>T d (by simp[A]))
    exact⟨x::xs,by simp only[XL];exact⟨x,xs,rfl,G,K⟩,by intro z B;rcases nE.mp B with e | e;rw[e];exact F;exact J z e,by simp only[zI];exact⟨v,vs,rfl,E,L⟩⟩
end
end Go.V
namespace Go.V
open Go Go.Proofs Go.Lib Tryz
def zC(s:ByteArray)(k:Nat):Nat:=(s.data.toList.getD k 0).toNat
theorem ZU(s:ByteArray)(k:Nat):cY s (k:Int)=(zC s k:Int):=by simp[cY,zC]
theorem ke(n:Int):IntKind.wrap .u8 n=n%256:=by
 simp[IntKind.wrap,IntKind.bits,IntKind.signed]
theorem gq{n:Int}{m:Nat}(h:n=(m:Int)):UInt8.ofNat (IntKind.wrap .u8 n).toNat=UInt8.ofNat m:=by
 subst h
 apply UInt8.toNat_inj.1
 rw[ke]
 simp only[Cn]
 omega
theorem lL{n:Int}(h:aB n):IntKind.wrap .i64 n=n:=by
 obtain⟨H,G⟩:=h
 simp[IntKind.wrap,IntKind.bits,IntKind.signed]
 split <;> omega
theorem H5(s:ByteArray)(k:Nat):IntKind.wrap .i64 (zC s k:Int)=(zC s k:Int):=by
 have:zC s k<256:=rn _
 exact lL ⟨by omega,by omega⟩
theorem zi5(p:Nat):aq prog 257 [int p] (.bool (decide (uz p))):=by
 refine aF func257 ?_
 by_cases H:(p:Int)<=1114111
 .by_cases G:(p:Int)<55296
  .have:uz p:=⟨by omega,by omega⟩
   simp+decide[Tryz.f257,int,H,G,this]
  .have F:uz p↔(57343:Int)<p:=⟨λh=>by have:=h.2;omega,λh=>⟨by omega,by omega⟩⟩
   simp+decide[Tryz.f257,int,H,G,F]
 .have:¬uz p:=λh=>H (by have:=h.1;omega)
  simp+decide[Tryz.f257,int,H,this]
def fT(p:Nat):ByteArray:=⟨((eK p).map UInt8.ofNat).toArray⟩
theorem zta(p:Nat)(E:p<2^40):aq prog 258 [int p] (.str (fT p)):=by
 refine aF func258 ?_
 have t1:(p:Int).tmod 64=((p%64:Nat):Int):=rfl
 have t2:((p:Int)/64).tmod 64=((p/64%64:Nat):Int):=by rw[show(p:Int)/64=((p/64:Nat):Int) by omega];rfl
 have t3:((p:Int)/4096).tmod 64=((p/4096%64:Nat):Int):=by rw[show(p:Int)/4096=((p/4096:Nat):Int) by omega];rfl
 by_cases K:p<128
 .have H:(p:Int)<128:=by omega
  simp+decide[f258,int,H,wC,cP];rw[gq (m:=p) (by omega)]
  simp[fT,eK,K]
 have H:¬(p:Int)<128:=by omega
 by_cases J:p<2048
 .have G:(p:Int)<2048:=by omega
  simp+decide[f258,int,H,G,t1,wC,cP,aB];rw[gq (m:=192+p/64) (by omega),gq (m:=128+p%64) (by omega)]
  refine⟨by omega,by omega,by omega,?_⟩
  simp[fT,eK,K,J]
 have G:¬(p:Int)<2048:=by omega
 by_cases L:p<65536
 .have F:(p:Int)<65536:=by omega
  simp+decide[f258,int,H,G,F,t1,t2,wC,cP,aB];rw[gq (m:=224+p/4096) (by omega),gq (m:=128+p/64%64) (by omega),gq (m:=128+p%64) (by omega)]
  refine⟨by omega,by omega,by omega,by omega,by omega,?_⟩
  simp[fT,eK,K,J,L]
 have F:¬(p:Int)<65536:=by omega
 simp+decide[f258,int,H,G,F,t1,t2,t3,wC,cP,aB]
 rw[gq (m:=240+p/262144) (by omega),gq (m:=128+p/4096%64) (by omega),gq (m:=128+p/64%64) (by omega),gq (m:=128+p%64) (by omega)]
 refine⟨by omega,by omega,by omega,by omega,by omega,by omega,by omega,?_⟩
 simp[fT,eK,K,J,L]
theorem dA{a b:ByteArray}(h:a.toList=b.toList):a=b:=by
 rw[<-MapKept.bytes_beq,beq_toListBytes,tx];exact h
def ko(s:ByteArray)(bc p0:Nat):Nat->Nat
 |0=>p0
 |k+1=>ko s bc p0 k*64+zC s (bc+(k+1))%64
theorem H6{s:ByteArray}{bc p0:Nat}(h:p0<256):∀ k,ko s bc p0 k<256*64^k
 |0=>by simpa[ko] using h
 |k+1=>by
  have:=H6 (s:=s) (bc:=bc) h k
  simp only[ko,At];omega
def ir(s:ByteArray)(bc:Nat):List Nat:=[zC s bc,zC s (bc+1),zC s (bc+2),zC s (bc+3)]
theorem zi6(s:ByteArray)(bc p0:Nat):∀ n,n<=4->Yl p0 ([zC s (bc+1),zC s (bc+2),zC s (bc+3)].take (n-1))=ko s bc p0 (n-1)
 |0,_=>rfl
 |1,_=>rfl
 |2,_=>rfl
 |3,_=>rfl
 |4,_=>rfl
theorem H7:∀ {a b:List UInt8},a.map UInt8.toNat=b.map UInt8.toNat->a=b
 | [],[],_=>rfl
 | [],_::_,h=>by simp at h
 |_::_,[],h=>by simp at h
 |x::a,y::b,h=>by
  simp only[nK,sr] at h;rw[UInt8.toNat_inj.1 h.1,H7 h.2]
theorem zi7{s:ByteArray}{bc n:Nat}(F:n<=4)(h:bc+n<=s.size):(s.extract bc (bc+n)).data.toList.map UInt8.toNat=(ir s bc).take n:=by
 have G:s.size=s.data.toList.length:=by rw[oM];rfl
 have E:(s.extract bc (bc+n)).data.toList=(s.data.toList.drop bc).take n:=by
  simp only[ByteArray.data_extract,Bu,u_];congr 1;omega
 rw[E]
 apply ro
 intro j
 rw[pC,og,og]
 by_cases hj:j<n
 .rw[gt hj,gt hj,oQ,ac (by omega)]
  have K:∀ k,(J:k<s.data.toList.length)->(s.data.toList[k]'J).toNat=zC s k:=λk J=>by simp[zC,List.getD,ac J]
  have H:j=0\/j=1\/j=2\/j=3:=by omega
  rw[oL,K];rcases H with rfl | rfl | rfl | rfl <;> rfl
 .rw[ge hj,ge hj];rfl
theorem zf4(p:Nat):(fT p).data.toList.map UInt8.toNat=(eK p).map (· % 256):=by
 simp only[fT,rW]
 apply pD
 intro b _
 simp
theorem ztb{s:ByteArray}{bc n p:Nat}(H:n<=4)(h:bc+n<=s.size):fT p=s.extract bc (bc+n)↔(eK p).map (· % 256)=(ir s bc).take n:=by
 rw[<-zf4,<-zi7 H h]
 constructor
 .intro e;rw[e]
 .intro e
  have:=H7 e
  have e2:(fT p).data=(s.extract bc (bc+n)).data:=tb this
  cases G:fT p;cases F:s.extract bc (bc+n)
  rw[G,F] at e2;simp only at e2;rw[e2]
def gu(s:ByteArray)(bc:Nat):Option (Nat×Nat):=Xg (s.size-bc) (zC s bc) (zC s (bc+1)) (zC s (bc+2)) (zC s (bc+3))
def YJ:Option (Nat×Nat)->D
 |none=>.bE [int (-1),int 0]
 |some r=>.bE [int r.1,int r.2]
theorem zi8{s:ByteArray}{bc p0 n:Nat}(H:vu (zC s bc)=(p0,n))(G:n<=4):gu s bc=if s.size-bc<n then none else if uz (ko s bc p0 (n-1))/\(eK (ko s bc p0 (n-1))).map (· % 256)=(ir s bc).take n then some (ko s bc p0 (n-1),n) else none:=by
 unfold gu Xg
 rw[H]
 simp only
 rw[zi6 s bc p0 n G]
 rfl
theorem zng(s:ByteArray)(bc:Nat)(H:bc<s.size)(hs:s.size<=1048576):aq prog 226 [.str s,int bc] (YJ (gu s bc)):=by
 refine BR func226 rfl nB ?_
 have Q:zC s bc<256:=rn _
 have e0:=ZU s bc
 have w0:=H5 s bc
 obtain⟨⟨p0,n⟩,T⟩:∃ r,vu (zC s bc)=r:=⟨_,rfl⟩
 have G:p0<256/\1<=n/\n<=4:=by
  unfold vu at T;split at T
  .cases T;omega
  .split at T
   .cases T;omega
   .split at T <;> cases T <;> omega
 refine jb mixed 4 {n:=65,next:=0,af:=[(0,.d (.str s)),(1,.d (int bc)),(6,.d (int p0)),(7,.d (int n))],own:=[]} rfl ?_ ?_
 .unfold vu at T
  have q4:(240:Int)<=zC s bc↔240<=zC s bc:=by omega
  have q3:(224:Int)<=zC s bc↔224<=zC s bc:=by omega
  have q2:(192:Int)<=zC s bc↔192<=zC s bc:=by omega
  by_cases c4:240<=zC s bc
  .rw[gt c4] at T
   cases T;have ep:(zC s bc:Int)-240=((zC s bc-240:Nat):Int):=by omega
   simp+decide[f226,yo,int,H,e0,w0,q4,c4,aB,wC,ep];omega
  rw[ge c4] at T;by_cases c3:224<=zC s bc
  .rw[gt c3] at T
   cases T;have ep:(zC s bc:Int)-224=((zC s bc-224:Nat):Int):=by omega
   simp+decide[f226,yo,int,H,e0,w0,q4,c4,q3,c3,aB,wC,ep];omega
  rw[ge c3] at T;by_cases c2:192<=zC s bc
  .rw[gt c2] at T
   cases T;have ep:(zC s bc:Int)-192=((zC s bc-192:Nat):Int):=by omega
   simp+decide[f226,yo,int,H,e0,w0,q4,c4,q3,c3,q2,c2,aB,wC,ep];omega
  .rw[ge c2] at T
   cases T;simp+decide[f226,yo,int,H,e0,w0,q4,c4,q3,c3,q2,c2,aB,wC]
 simp only[yK]
 rw[zi8 T G.2.2]
 refine cy ?_
 by_cases E:s.size-bc<n
 .have g1:(s.size:Int)<(bc:Int)+n:=by omega
  rw[gt E];simp+decide[int,g1,aB,YJ];omega
 have g1:¬(s.size:Int)<(bc:Int)+n:=by omega
 rw[ge E]
 simp+decide[int,g1,aB]
 refine⟨by omega,?_⟩
 refine cl (λj:Nat=>{n:=65,next:=0,af:=[(0,.d (.str s)),(1,.d (int bc)),(6,.d (int (ko s bc p0 j))),(7,.d (int n)),(8,.d (int (j+1)))],own:=[]})
  (λj=>j+1<=n) (λj=>n-j) 0 G.2.1 (by simp+decide[int,ko]) ?_
 intro j hj
 have J:=H6 (s:=s) (bc:=bc) G.1 j
 have F:ko s bc p0 j<2^30:=pg J (oC (sW _ (sM (by omega) (show j<=3 by omega))) (by decide))
 by_cases O:j+1<n
 .have k1:(j:Int)+1<n:=by omega
  have e1:cY s ((bc:Int)+((j:Int)+1))=(zC s (bc+(j+1)):Int):=ZU s (bc+(j+1))
  have w1:=H5 s (bc+(j+1));have t1:(zC s (bc+(j+1)):Int).tmod 64=((zC s (bc+(j+1))%64:Nat):Int):=rfl
  simp+decide[int,k1,e1,w1,t1,aB,wC];exact⟨by omega,by omega,by omega,by omega,by omega,j+1,by omega,by omega,by simp only[ko];omega,by omega⟩
 .obtain rfl:n=j+1:=by omega
  rw[rz];simp+decide[int];generalize ko s bc p0 j=q at F ⊢;refine bw (zi5 q) ?_
  by_cases K:uz q
  case neg=>simp+decide[K,int,YJ]
  simp+decide[K];refine bw (zta q (by omega)) ?_
  have z1:((bc:Int)+((j:Int)+1)).toNat=bc+(j+1):=by omega
  have V:=ztb (s:=s) (bc:=bc) (n:=j+1) (p:=q) (by omega) (by omega)
  by_cases X:fT q=s.extract bc (bc+(j+1))
  .simp+decide[int,z1,X,V.1 X,YJ,aB]
   omega
  .have L:¬((eK q).map (· % 256)=(ir s bc).take (j+1)):=λh=>X (V.2 h)
   have M:¬(fT q).toList=(s.extract bc (bc+(j+1))).toList:=λh=>X (dA h)
   simp+decide[int,z1,L,M,YJ,aB];omega
def ql(s:ByteArray):Nat->Nat->Option (List Int)
 |0,_=>some []
 |n+1,pos=>if pos<s.size then (match gu s pos with
  |none=>none
  |some r=>(ql s n (pos+r.2)).map ((r.1:Int) :: ·)) else some []
theorem Wm{s:ByteArray}{pos:Nat}(h:pos<s.size):match gu s pos with
  |none=>decodeN (s.size-pos) (zC s pos) (zC s (pos+1)) (zC s (pos+2)) (zC s (pos+3))=(65533,1)
  |some r=>decodeN (s.size-pos) (zC s pos) (zC s (pos+1)) (zC s (pos+2)) (zC s (pos+3))=r/\¬(r.1=65533/\r.2=1)/\r.2<=s.size-pos/\1<=r.2:=
 zbm _ _ _ _ _ (by omega) (rn _) (rn _) (rn _) (rn _)
def kp:Option (List Int)->D
 |none=>.bE [.sl [],.bool false]
 |some l=>.bE [aa l,.bool true]
def Vm(s:ByteArray)(x:List Int×Nat×Nat):St:=
 {n:=28,next:=2,af:=[(0,.d (.str s)),(4,.ar 1),(5,.d (int x.2.1))],own:=[(1,.aQ 3 1 (x.1.map λn=>[.int .i64 n]))],aA:=[1]}
theorem GI(s:ByteArray):∀ (m pos:Nat) (l:List Int),ql s m pos=some l->l.length<=m
 |0,pos,l,h=>by simp[ql] at h;subst h;simp
 |m+1,pos,l,h=>by
  simp only[ql] at h;split at h
  .split at h
   .cases h
   .rw[rE] at h
    obtain⟨l',H,rfl⟩:=h;have:=GI s m _ l' H
    simp;omega
  .cases h;simp
theorem Wn(s:ByteArray)(hs:s.size<=1048576):aq prog 192 [.str s] (kp (ql s s.size 0)):=by
 refine fY func192 [1,2] ?_
 simp+decide[f192]
 refine cl (Vm s) (λx=>x.2.1<=s.size/\s.size<=x.2.1+x.2.2/\x.1.length<=x.2.1/\ql s s.size 0=(ql s x.2.2 x.2.1).map (x.1 ++ ·)) (λx=>x.2.2) ([],0,s.size)
  ⟨by simp,by simp,by simp,by simp⟩ (by simp+decide[Vm,int]) ?_
 rintro⟨acc,pos,m⟩ ⟨E,K,J,L⟩
 simp only at E K J L
 by_cases G:pos<s.size
 .have H:=bG G
  obtain⟨m,rfl⟩:∃ k,m=k+1:=⟨m-1,by omega⟩
  simp only[ql,gt G] at L;have M:=Wm G;have F:=zng s pos G hs;simp+decide[Vm,int,H];refine zg F ?_
  cases O:gu s pos with
  |none=>
   rw[O] at L;simp+decide[YJ,int,kp,L]
  |some r=>
   rw[O] at L M;simp only at L M
   obtain⟨_,_,g3,g4⟩:=M;have e1:¬r.2=0:=by omega
   simp+decide[YJ,int,e1,aB];refine⟨by omega,by unfold maxLen;omega,by omega,acc++[(r.1:Int)],pos+r.2,m,⟨by omega,by omega,by simp;omega,by rw[L];cases ql s m (pos+r.2) <;> simp⟩,by omega,?_⟩
   simp+decide[Vm,int]
 .have H:¬(pos:Int)<s.size:=by omega
  have Q:ql s m pos=some []:=by cases m <;> simp[ql,G]
  rw[Q] at L;simp+decide[Vm,int,H,L,kp,aa]
end Go.V
namespace Go.V
open Go Go.Proofs Tryz
def Wp(r:D):Prop:=∃ b,r = .bool b
def Wq(r:D):Prop:=∃ e,r=int e
@[simp] theorem zvd(b:Bool):Wp (.bool b):=⟨b,rfl⟩
@[simp] theorem zve(n:Int):Wq (.int .i64 n):=⟨n,rfl⟩
theorem H8(s:ByteArray)(hs:s.size<=1048576):cu prog 142 [.str s] Wp:=by
 refine dW func142 ?_
 simp+decide[f142]
 refine dg (λk:Nat=>{n:=38,next:=0,af:=[(0,.d (.str s)),(3,.d (int k))],own:=[]}) s.size (by simp+decide[int]) ?_
 intro k F
 by_cases G:k<s.size
 .have H:=bG G
  have e1:cY s (k:Int)=(zC s k:Int):=ZU s k
  by_cases b1:(zC s k:Int)<32
  .simp+decide[int,H,e1,b1]
  .by_cases b2:(zC s k:Int)=127
   .simp+decide[int,H,e1,b2]
   .simp+decide[int,H,e1,b1,b2,aB]
    exact⟨by omega,k+1,G,by omega,by omega⟩
 .have H:¬(k:Int)<s.size:=by omega
  simp+decide[int,H];refine zg (Wn s hs) ?_
  cases E:ql s s.size 0 with
  |none=>simp+decide[kp]
  |some l=>
   by_cases c1:(1:Int)<=s.size
   .simp+decide[kp,aa,c1]
   .simp+decide[kp,aa,c1]
theorem zf5(s:ByteArray)(hs:s.size<=1048576):cu prog 145 [.str s] Wp:=by
 refine dW func145 ?_
 simp+decide[f145]
 refine dg (λk:Nat=>{n:=16,next:=0,af:=[(0,.d (.str s)),(3,.d (int k))],own:=[]}) s.size (by simp+decide[int]) ?_
 intro k F
 by_cases G:k<s.size
 .have H:=bG G
  have e1:cY s (k:Int)=(zC s k:Int):=ZU s k
  by_cases b1:(zC s k:Int)=32
  .simp+decide[int,H,e1,b1]
  .simp+decide[int,H,e1,b1,aB]
   exact⟨by omega,k+1,G,by omega,by omega⟩
 .have H:¬(k:Int)<s.size:=by omega
  simp+decide[int,H];refine zE.some (by rfl) (H8 s hs) ?_
  rintro r ⟨b,rfl⟩
  simp+decide
def gw(b:Nat):Bool:=decide (97<=b)&&decide (b<=122)
def kq(b:Nat):Bool:=gw b || (decide (48<=b)&&decide (b<=57)) || decide (b=45) || decide (b=95)
def fc(s:ByteArray):Bool:=decide (1<=s.size)&&decide (s.size<=32)&&gw (zC s 0)&&(List.range s.size).all λk=>kq (zC s k)
theorem znh(b:Nat):(97<=b/\b<=122)\/(48<=b/\b<=57)\/b=45\/b=95\/(b<48/\b≠45)\/(57<b/\b<97/\b≠95)\/122<b:=by omega
theorem H9(s:ByteArray)(hs:s.size<=9223372036854775807):aq prog 143 [.str s] (.bool (fc s)):=by
 refine aF func143 ?_
 simp+decide[f143]
 refine cl (λk:Nat=>{n:=59,next:=0,af:=[(0,.d (.str s)),(3,.d (.int .i64 k))],own:=[]})
  (λk=>k<=s.size/\∀ j,j<k->(kq (zC s j)=true/\(j=0->gw (zC s 0)=true))) (λk=>s.size-k) 0 (by simp) (by simp+decide) ?_
 intro k ⟨M,O⟩
 by_cases F:k<s.size
 .have H:=bG F
  have e0:cY s (k:Int)=(zC s k:Int):=ZU s k
  have cI:kq (zC s k)=true->(k=0->gw (zC s k)=true)->∀ j,j<k+1->(kq (zC s j)=true/\(j=0->gw (zC s 0)=true)):=by
   intro Q T j hj;rcases pe j k with J | J
   .exact O j J
   .obtain rfl:j=k:=(by omega);exact⟨Q,λe=>by subst e;exact T rfl⟩
  have bad:kq (zC s k)=false->fc s=false:=λQ=>by
   have:(List.range s.size).all (λk=>kq (zC s k))=false:=by rw[wn];exact⟨k,by simpa using F,by simp[Q]⟩
   simp only[fc,this,Bool.and_false]
  have bad0:k=0->gw (zC s k)=false->fc s=false:=λT Q=>by
   subst T;simp only[fc,Q,Bool.and_false,tX]
  generalize zC s k=b at e0 cI bad bad0;by_cases hs:97<=b/\b<=122
  .obtain⟨c1,c2⟩:=hs
   have q1:(97:Int)<=b:=by omega
   have q2:(b:Int)<=122:=by omega
   have V:gw b=true:=by simp[gw];omega
   simp+decide[H,e0,q1,q2,aB];exact⟨by omega,k+1,⟨by omega,cI (by simp[kq,V]) (λ_=>V)⟩,by omega,by omega⟩
  .have V:gw b=false:=by simp[gw];omega
   by_cases G:k=0
   .subst G
    have Q:=bad0 rfl V;have e0':cY s 0=(b:Int):=e0
    by_cases q1:(97:Int)<=b
    .have q2:¬(b:Int)<=122:=by omega
     simp+decide[F,e0',q1,q2,Q]
    .simp+decide[F,e0',q1,Q]
   .have L:¬(k:Int)=0:=by omega
    have key:∀ (r:Bool),kq b=r->(decide (97<=(b:Int))&&decide ((b:Int)<=122))=false:=λ_ _=>by simp;omega
    by_cases q1:(97:Int)<=b
    .have q2:¬(b:Int)<=122:=by omega
     have q3:¬(b:Int)=45:=by omega
     have q4:¬(b:Int)=95:=by omega
     have q5:¬(b:Int)<48:=by omega
     have q6:(57:Int)<b:=by omega
     have Q:=bad (by simp[kq,V];omega)
     simp+decide[H,e0,q1,q2,q3,q4,q5,q6,G,Q]
    .rcases znh b with⟨c1,c2⟩ | ⟨c1,c2⟩ | rfl | rfl | ⟨c1,c2⟩ | ⟨c1,c2,c3⟩ | c1
     .omega
     .have q3:¬(b:Int)=45:=by omega
      have q4:¬(b:Int)=95:=by omega
      have q5:¬(b:Int)<48:=by omega
      have q6:¬(57:Int)<b:=by omega
      simp+decide[H,e0,q1,q3,q4,q5,q6,G,aB];exact⟨by omega,k+1,⟨by omega,cI (by simp[kq];omega) (λh=>absurd h G)⟩,by omega,by omega⟩
     .simp+decide[H,e0,G,aB]
      exact⟨by omega,k+1,⟨by omega,cI (by decide) (λh=>absurd h G)⟩,by omega,by omega⟩
     .simp+decide[H,e0,G,aB]
      exact⟨by omega,k+1,⟨by omega,cI (by decide) (λh=>absurd h G)⟩,by omega,by omega⟩
     .have q3:¬(b:Int)=45:=by omega
      have q4:¬(b:Int)=95:=by omega
      have q5:(b:Int)<48:=by omega
      have Q:=bad (by simp[kq,V];omega)
      simp+decide[H,e0,q1,q3,q4,q5,G,Q]
     .have q3:¬(b:Int)=45:=by omega
      have q4:¬(b:Int)=95:=by omega
      have q5:¬(b:Int)<48:=by omega
      have q6:(57:Int)<b:=by omega
      have Q:=bad (by simp[kq,V];omega)
      simp+decide[H,e0,q1,q3,q4,q5,q6,G,Q]
     .omega
 .obtain rfl:k=s.size:=by omega
  have E:(List.range s.size).all (λk=>kq (zC s k))=true:=by
   rw[oo];intro j hj;exact(O j (by simpa using hj)).1
  by_cases X:1<=s.size
  .have K:(1:Int)<=s.size:=by omega
   have V:=(O 0 (by omega)).2 rfl
   simp+decide[K,fc,E,V,X];omega
  .have K:¬(1:Int)<=s.size:=by omega
   simp+decide[K,fc,X]
def YK(l:List ByteArray):D:=.sl (l.map λs=>[.str s])
theorem zni(l:List ByteArray)(s:ByteArray)(F:l.length<2^40):cu prog 146 [YK l,.str s] Wp:=by
 refine dW func146 ?_
 simp+decide[f146,YK]
 refine dg (λk:Nat=>{n:=18,next:=0,af:=[(0,.d (YK l)),(1,.d (.str s)),(5,.d (int k))],own:=[]}) l.length (by simp+decide[int,YK]) ?_
 intro k E
 by_cases G:k<l.length
 .have H:=bG G
  obtain⟨x,ex,e1⟩:=bN G;by_cases b1:x=s
  .simp+decide[int,YK,G,H,ex,b1]
  .simp+decide[int,YK,G,H,ex,aB]
   first | exact λ_=>⟨by omega,k+1,G,by omega,by omega⟩ | exact⟨by omega,k+1,G,by omega,by omega⟩
 .have H:¬(k:Int)<l.length:=by omega
  simp+decide[int,YK,H]
structure eO(o:bb):Prop where
 name:o.name.size<=1048576
 au:∀ u∈o.au,u.bg.size<=1048576/\u.bi.length<=1048576
 cA:∀ l∈o.cA,l.length<=1048576/\∀ s∈l,s.size<=1048576
 cW:o.au.length<=1048576/\o.cA.length<=1048576
def GK(s:ByteArray):Bool:=Lib.validD s.data.toList
end Go.V
namespace Go.V.Doc
open Go Go.Proofs Tryz
def eD(b:Nat):Bool:=decide (b<32) || decide (b=127)
def Ws(s:ByteArray):Bool:=(List.range s.size).any λk=>eD (zC s k)
def c_(s:ByteArray):Int:=if 200<s.size then 5 else if GK s=true then (if Ws s=true then 3 else 0) else 3
end Go.V.Doc
namespace Go.V
open Go Go.Proofs Tryz
structure bR where
 cd:Rf
 f_:Bool
 pick:List aG
 deriving DecidableEq
def bR.row(d:bR):List D:=[int d.cd.cw,int d.cd.bT,.bool d.f_,zh d.pick]
def zu(l:List bR):D:=.sl (l.map bR.row)
def wO(r:Rf):D:=.agg r.row
theorem GL(ay:Nat->Option am):∀ (l:List D),vO ay (l.map .d)=some (l,false)
 | []=>rfl
 |d::r=>by simp only[nK,vO,cL,GL ay r];rfl
def gx:List Int->Int
 | []=>0
 |x::l=>if x=0 then gx l else x
theorem znj{l:List Int}{k:Nat}(h:k<l.length):gx (l.drop k)=if l[k]=0 then gx (l.drop (k+1)) else l[k]:=by
 rw[nY h];rfl
def Ha(a b:Rf):Int:=gx [qh a.cw b.cw,qh a.bT b.bT]
end Go.V
namespace Go.V.Doc
open Go.Proofs.Tryz
open Go
structure Nt where
 id:Int
 aZ:Int
 aE:Int
 fr:Int
 t_o:Int
 cc:Int
 cF:ByteArray
 deriving Inhabited,DecidableEq
def Nt.cv(n:Nt):List Value:=[.int .i64 n.id,.int .i64 n.aZ,.int .i64 n.aE,.int .i64 n.fr,.int .i64 n.t_o,.int .i64 n.cc,.string n.cF]
def YL(a b:Nt):Int:=gx [qh a.aE b.aE,qh a.fr b.fr,qh a.cc b.cc]
end Go.V.Doc
namespace Go.V.Doc
open Go Go.Proofs Tryz
variable [Dr]
def Nt.row(n:Nt):List D:=[int n.id,int n.aZ,int n.aE,int n.fr,int n.t_o,int n.cc,.str n.cF]
def zq(l:List Nt):D:=.sl (l.map Nt.row)
theorem ZV:cK Nt.cv Nt.row 7 where
 pos:=by decide
 len:=λ_=>rfl
 cB:=by intro x v H;simp[Nt.cv] at H;rcases H with rfl | rfl | rfl | rfl | rfl | rfl | rfl <;> rfl
 mH:=λ_=>rfl
 read:=by
  intro w E x;simp only[Nt.row,Nt.cv,zl,R,int];exact⟨_,_,rfl,rfl,rfl,_,_,rfl,rfl,rfl,_,_,rfl,rfl,rfl,_,_,rfl,rfl,rfl,_,_,rfl,rfl,rfl,_,_,rfl,rfl,rfl,_,_,rfl,rfl,rfl,rfl⟩
 fx:=by
  intro w E x vs h;simp only[Nt.row,zl,R,int] at h;obtain⟨_,_,rfl,_,rfl,_,_,rfl,_,rfl,_,_,rfl,_,rfl,_,_,rfl,_,rfl,_,_,rfl,_,rfl,_,_,rfl,_,rfl,_,_,rfl,_,rfl,rfl⟩:=h;rfl
theorem Vj(n:Int):aq prog 123 [int n] (.bool false):=by
 refine aF func123 ?_
 simp[f123,int]
theorem ZP(a b:Int):aq prog 67 [int a,int b] (int (qh a b)):=by
 refine aF func67 ?_
 simp[f67,int]
 refine zg (Vj a) ?_
 simp
 refine zg (Vj b) ?_
 simp[qh]
 refine⟨λh h'=>by omega,λh=>by omega⟩
theorem GM(l:List Int)(G:l.length<2^62):aq prog 166 [aa l] (int (gx l)):=by
 refine aF func166 ?_
 simp[f166,aa]
 refine cl (λk:Nat=>{n:=18,next:=0,af:=[(0,.d (aa l)),(3,.d (int 0)),(6,.d (aa l)),(7,.d (.int .i64 l.length)),(8,.d (.int .i64 k))],own:=[]})
  (λk=>k<=l.length/\gx l=gx (l.drop k)) (λk=>l.length-k) 0 (by simp) (by simp[aa,int]) ?_
 intro k ⟨F,E⟩
 by_cases H:k<l.length
 .have e1:l[k]?=some l[k]:=ac H
  rw[znj H] at E;simp+decide[aa,int,H,aB];refine⟨λh=>?_,λh=>⟨by omega,k+1,⟨H,?_⟩,by omega,by omega⟩⟩
  .rw[E,ge h]
  .rw[E,gt h]
 .obtain rfl:k=l.length:=by omega
  simp+decide[aa,int,E,gx]
theorem znk(a b:Nt):aq prog 113 [.agg a.row,.agg b.row] (int (YL a b)):=by
 refine aF func113 ?_
 simp+decide[f113,Nt.row,int]
 refine bw (ZP a.aE b.aE) ?_
 simp+decide[int]
 refine bw (ZP a.fr b.fr) ?_
 simp+decide[int]
 refine bw (ZP a.cc b.cc) ?_
 simp+decide[int,cp,dL,ii,vh]
 refine bw (GM [qh a.aE b.aE,qh a.fr b.fr,qh a.cc b.cc] (by simp)) ?_
 simp+decide[YL,int]
theorem zf6{bP off size:Nat}{w:World}{E:Nat->Prop}(H:fp w E)(G:E bP):Go.Proofs.CmpLays prog 113 #[] Nt.cv 7 YL bP off size w:=by
 let d:Dr:=⟨true⟩
 exact @Rh d _ _ _ _ _ _ _ rfl _ _ ZV (λx y=>@znk d x y) _ _ _ _ _ H G
end Go.V.Doc
namespace Go.V.Doc
open Go Go.Proofs Tryz
structure cD where
 name:ByteArray
 kind:Int
 bV:Int
 aE:Int
 deriving Inhabited,DecidableEq
def cD.row(t:cD):List D:=[.str t.name,int t.kind,int t.bV,int t.aE]
def zw(l:List cD):D:=.sl (l.map cD.row)
structure Dc where
 id:Int
 name:ByteArray
 len:Int
 iG:Int
 fh:List Int
 al:List cD
 ae:List Nt
 deriving DecidableEq
def Dc.row(d:Dc):List D:=[int d.id,.str d.name,int d.len,int d.iG,aa d.fh,zw d.al,zq d.ae]
def zn(d:Dc):D:=.agg d.row
theorem bq{α:Type}{l:List α}{k:Nat}(h:k<l.length):l.take (k+1)=l.take k++[l[k]]:=by rw[nX h]
theorem He{α:Type}{p:α->Prop}{l:List α}{k:Nat}(h:k<l.length)(H:∀ e∈l.take k,p e)(G:p l[k]):∀ e∈l.take (k+1),p e:=by
 rw[bq h]
 intro e F
 rcases nM.1 F with F | F
 .exact H e F
 .simp at F;rw[F];exact G
@[simp] theorem zqs{a b:ByteArray}:a.toList=b.toList↔a=b:=by
 rw[<-MapKept.bytes_beq,beq_toListBytes,tx]
structure Dc.iZ(d:Dc):Prop where
 ae:d.ae.length<=320
 al:d.al.length<=20
 fh:d.fh.length<=100
def Nt.zero:Nt:=⟨0,0,0,0,0,0,⟨#[]⟩⟩
def zp(l:List Nt)(id:Int):Nt×Bool:=match l.find? (λn=>decide (n.id=id)) with
 |some n=>(n,true)
 |none=>(Nt.zero,false)
def cb(r:Nt×Bool):D:=.bE [.agg r.1.row,.bool r.2]
theorem Hf{l:List Nt}{id:Int}{k:Nat}(h:k<l.length)(H:∀ e∈l.take k,e.id≠id)(G:l[k].id=id):zp l id=(l[k],true):=by
 have:l.find? (λn=>decide (n.id=id))=some l[k]:=by
  rw[tG];refine⟨by simpa using G,l.take k,l.drop (k+1),by rw[List.getElem_cons_drop,oT],λe F=>by simpa using H e F⟩
 simp[zp,this]
theorem Hg{l:List Nt}{id:Int}(H:∀ e∈l,e.id≠id):zp l id=(Nt.zero,false):=by
 have:l.find? (λn=>decide (n.id=id))=none:=by rw[ry];intro e G;simpa using H e G
 simp[zp,this]
abbrev zO(d:Dc):List ah:=[.d (int d.id),.d (.str d.name),.d (int d.len),.d (int d.iG),.d (aa d.fh),.d (zw d.al),.d (zq d.ae)]
abbrev dz(n:Nt):List ah:=[.d (int n.id),.d (int n.aZ),.d (int n.aE),.d (int n.fr),.d (int n.t_o),.d (int n.cc),.d (.str n.cF)]
theorem YM(d:Dc)(id:Int)(G:d.ae.length<2^62):aq prog 54 [zn d,int id] (cb (zp d.ae id)):=by
 refine aF func54 ?_
 simp+decide[f54,zn,Dc.row,zq,zw,aa,int]
 refine cl (λk:Nat=>{n:=22,next:=2,af:=[(1,.d (int id)),(2,.bp 0 0),(4,.bp 1 0),(5,.d (.bool false)),(9,.d (zq d.ae)),(10,.d (.int .i64 d.ae.length)),(11,.d (.int .i64 k))],own:=[(0,.box 53 (zO d)),(1,.box 72 (dz Nt.zero))]})
  (λk=>k<=d.ae.length/\∀ e∈d.ae.take k,e.id≠id) (λk=>d.ae.length-k) 0 (by simp) (by simp+decide[zq,zw,aa,int,Nt.zero]) ?_
 intro k ⟨F,E⟩
 by_cases H:k<d.ae.length
 .have e1:d.ae[k]?=some d.ae[k]:=ac H
  simp+decide[zq,int,Nt.row,Nt.zero,H,aB];refine⟨λh=>?_,λh=>⟨by omega,k+1,⟨H,He H E h⟩,by omega,by omega⟩⟩
  simp[cb,Hf H E h,Nt.row,int]
 .obtain rfl:k=d.ae.length:=by omega
  rw[nH] at E;simp+decide[zq,int,Hg E,cb,Nt.row,Nt.zero]
theorem jL(d:Dc)(id:Int)(G:d.ae.length<2^62):aq prog 36 [zn d,int id] (cb (zp d.ae id)):=by
 refine aF func36 ?_
 simp+decide[f36,zn,Dc.row,zq,zw,aa,int]
 refine cl (λk:Nat=>{n:=28,next:=2,af:=[(1,.d (int id)),(2,.bp 0 0),(4,.bp 1 0),(5,.d (.bool false)),(6,.d (.int .i64 k))],own:=[(0,.box 53 (zO d)),(1,.box 72 (dz Nt.zero))]})
  (λk=>k<=d.ae.length/\∀ e∈d.ae.take k,e.id≠id) (λk=>d.ae.length-k) 0 (by simp) (by simp+decide[zq,zw,aa,int,Nt.zero]) ?_
 intro k ⟨F,E⟩
 by_cases H:k<d.ae.length
 .have e1:d.ae[k]?=some d.ae[k]:=ac H
  simp+decide[zq,zw,aa,int,Nt.row,Nt.zero,H,aB];refine⟨λh=>?_,λh=>⟨by omega,k+1,⟨H,He H E h⟩,by omega,by omega⟩⟩
  simp[cb,Hf H E h,Nt.row,int]
 .obtain rfl:k=d.ae.length:=by omega
  rw[nH] at E;simp+decide[zq,zw,aa,int,Hg E,cb,Nt.row,Nt.zero]
theorem zq0(a b:List Int)(E:b.length<2^62):aq prog 62 [aa a,aa b] (.bool (decide (a=b))):=by
 refine aF func62 ?_
 simp[f62,aa]
 refine⟨λh e=>h (by rw[e]),λh=>?_⟩
 refine cl (λk:Nat=>{n:=26,next:=0,af:=[(0,.d (aa a)),(1,.d (aa b)),(5,.d (.int .i64 k))],own:=[]})
  (λk=>k<=a.length/\a.take k=b.take k) (λk=>a.length-k) 0 (by simp) (by simp[aa]) ?_
 intro k ⟨K,J⟩
 have h:a.length=b.length:=by omega
 by_cases G:k<a.length
 .have e1:a[k]?=some a[k]:=ac G
  have e2:b[k]?=some (b[k]'(by omega)):=ac (by omega)
  have H:k<b.length:=by omega
  simp+decide[aa,G,H,aB];refine⟨λF e=>by subst e;simp at F,λhe=>⟨by omega,k+1,⟨G,?_⟩,by omega,by omega⟩⟩
  rw[bq G,bq H,J,he]
 .obtain rfl:k=a.length:=by omega
  simp+decide[aa];rw[nH,h,nH] at J;exact J
end Go.V.Doc

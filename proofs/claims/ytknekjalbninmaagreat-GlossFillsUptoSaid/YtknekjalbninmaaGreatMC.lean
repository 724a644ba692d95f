/- Contracts and plain laws of this seat: part MC. It needs no conditions. -/
import Derived.Test.YtknekjalbninmaaGreatMB
import Derived.Test.YtknekjalbninmaaGreatW1
import Derived.Test.YtknekjalbninmaaGreatMA
set_option maxHeartbeats 32000000
set_option linter.unusedVariables false
set_option linter.unusedSimpArgs false
set_option linter.unusedSectionVars false
set_option maxRecDepth 100000
namespace Go.V
open Go Go.Proofs
theorem zao{α:Type}{l:List α}{k:Nat}(h:k<l.length):l.take (k+1)=l.take k++[l[k]]:=by
 rw[List.take_succ_eq_append_getElem h]
def u32(m:Nat):D:=.int .u32 m
def hasS(m:Nat)(q:Int):Bool:=m.testBit q.toNat
def zlk(m:Nat)(q:Int):Nat:=m ||| (1 <<< q.toNat)
theorem yim:∀ (m:Fin 8) (q:Fin 3),(decide (zjn .and .u32 (zlx .shr .u32 (m.val:Int) (q.val:Int)) 1=1))=m.val.testBit q.val:=by decide +kernel
theorem yd5:∀ (m:Fin 8) (q:Fin 3),zjn .or .u32 (m.val:Int) (zlx .shl .u32 1 (q.val:Int))=((m.val ||| (1 <<< q.val):Nat):Int):=by decide +kernel
theorem ylw:∀ (m:Fin 8) (q:Fin 3),m.val ||| (1 <<< q.val)<8:=by decide +kernel
theorem yd6{m:Nat}{q:Int}(H:m<8)(G:0<=q)(F:q<3):(decide (zjn .and .u32 (zlx .shr .u32 (m:Int) q) 1=1))=hasS m q:=by
 have:=yim ⟨m,H⟩ ⟨q.toNat,by omega⟩
 simp only[show((q.toNat:Nat):Int)=q by omega] at this
 exact this
theorem yak{m:Nat}{q:Int}(H:m<8)(G:0<=q)(F:q<3):zjn .or .u32 (m:Int) (zlx .shl .u32 1 q)=((zlk m q:Nat):Int):=by
 have:=yd5 ⟨m,H⟩ ⟨q.toNat,by omega⟩
 simp only[show((q.toNat:Nat):Int)=q by omega] at this
 exact this
theorem z8e{m:Nat}{q:Int}(H:m<8)(G:0<=q)(F:q<3):zlk m q<8:=ylw ⟨m,H⟩ ⟨q.toNat,by omega⟩
theorem yd7(m:Nat)(q:Int)(H:m<8)(G:0<=q)(F:q<3):zan Tryz.prog 265 [u32 m,int q] (.bool (hasS m q)):=by
 refine zab mixed Tryz.func265 rfl c_265 ?_
 simp+decide[Tryz.f265,u32,int]
 have E:IntKind.u64.wrap q=q:=by rw[IntKind.wrap_u64];omega
 rw[E]
 exact .inl ⟨G,yd6 H G F⟩
theorem zv2(m:Nat)(q:Int)(H:m<8)(G:0<=q)(F:q<3):zan Tryz.prog 204 [u32 m,int q] (u32 (zlk m q)):=by
 refine zab mixed Tryz.func204 rfl c_204 ?_
 simp+decide[Tryz.f204,u32,int]
 have E:IntKind.u64.wrap q=q:=by rw[IntKind.wrap_u64];omega
 rw[E]
 exact .inl ⟨G,yak H G F⟩
abbrev z4h(n:Nett)(m:Nat):D:=.fn 264 [.ptr n.cells,.ptr [u32 m]]
theorem yin(n:Nett)(m:Nat):zan Tryz.prog 235 [.agg n.cells,u32 m] (z4h n m):=by
 refine zab mixed Tryz.func235 rfl c_235 ?_
 simp+decide[Tryz.f235,u32,int,Nett.cells]
def zb4(m:Nat)(c:Int)(out:Nat)(s:Stp):Nat:=if hasS m s.src=true/\s.cls=c then zlk out s.dst else out
def zfp(l:List Stp)(m:Nat)(c:Int):Nat:=l.foldl (zb4 m c) 0
def zmi(l:List Stp):Prop:=∀ s∈l,(0<=s.src/\s.src<3)/\(0<=s.dst/\s.dst<3)
theorem zx1{m:Nat}{c:Int}:∀ {l:List Stp} {out:Nat},zmi l->out<8->l.foldl (zb4 m c) out<8
 | [],out,_,h=>h
 |s::l,out,H,h=>by
  rw[List.foldl_cons];refine zx1 (λx hx=>H x (by simp[hx])) ?_
  unfold zb4;split
  .have:=(H s (by simp)).2;exact z8e h this.1 this.2
  .exact h
theorem yd8{l:List Stp}(h:zmi l)(m:Nat)(c:Int):zfp l m c<8:=zx1 h (by omega)
def zeq(n:Nett)(m:Nat):List Sym:=[.junk,.junk,.junk,.junk,.junk,.bp 2 0,.junk,.bp 1 0,.junk,.junk,.junk,.d (z4h n m),.junk,.junk,.junk,.junk,.junk,.junk,.junk,.junk,.junk,.junk]
@[simp] theorem ylx(n:Nett)(m:Nat):Sym.los 3 (zeq n m):=by simp[zeq,Sym.los,Sym.lo]
noncomputable def ze3(n:Nett)(m:Nat)(c:Int)(out:Nat)(s:LoopState):List (Nat×Obj'):=
 [(0,.raw (.lp #[12] (rAs Tryz.f203) (rBd Tryz.f203) s none) (zeq n m)),(1,.box 218 [.d (u32 out)]),(2,.box 3 [.d (int c)])]
theorem yd9(n:Nett)(m:Nat)(c:Int)(out:Nat)(H:out<8)(s:Stp)(hs:0<=s.dst/\s.dst<3):
  zuw Tryz.prog 0 [.d (.agg s.row)] (ze3 n m c out .ready) 3 (.d (.bool true)) 3 (ze3 n m c (if s.cls=c then zlk out s.dst else out) .ready) []:=by
 refine zy7 (cells:=zeq n m) (ps:=#[12]) (aS := rAs Tryz.f203) (bd:=rBd Tryz.f203) rfl (by simp) (by simp[zeq]) (by omega) (by simp[Sym.los,Sym.lo]) ?_
 have G:=zv2 out s.dst H hs.1 hs.2
 by_cases F:s.cls=c
 .rw[if_pos F]
  simp+decide[ze3,zeq,rAs,rBd,zez,Tryz.f203,Stp.row,int,u32,F];refine zai.pure (by rfl) G (by simp[u32,int]) ?_
  simp+decide[u32,int]
 .rw[if_neg F]
  simp+decide[ze3,zeq,rAs,rBd,zez,Tryz.f203,Stp.row,int,u32,F]
theorem yio(n:Nett)(m:Nat)(c:Int)(E:zmi n.steps)(J:m<8)(L:n.steps.length<2^40):
  zbl Tryz.prog 264 [.yd 0,.d (.ptr n.cells),.d (.ptr [u32 m])] (ze3 n m c 0 .ready) 3 (.d (.tup [])) 3 (ze3 n m c (zfp n.steps m c) .ready) []:=by
 refine zbl.ynd (za6 mixed Tryz.func264 rfl c_264 (by simp[Sym.los,Sym.lo]) ?_)
 simp+decide[Tryz.f264,Nett.cells,stepsD,int,u32]
 refine zax mixed (λk:Nat=>{n:=24,next:=3,base:=3,slots:=[(0,.yd 0),(1,.d (.ptr n.cells)),(2,.d (.ptr [u32 m])),(7,.d (stepsD n.steps)),(8,.d (int n.steps.length)),(9,.d (int k))],own:=ze3 n m c ((n.steps.take k).foldl (zb4 m c) 0) .ready})
  (λk=>k<=n.steps.length) (λk=>n.steps.length-k) 0 (by simp) (by simp+decide[int,u32,stepsD,Nett.cells,ze3]) ?_
 intro k M
 refine zoo ?_
 by_cases H:k<n.steps.length
 case neg=>
  have:k=n.steps.length:=by omega
  subst this;rw[List.take_length];have O:(n.steps.foldl (zb4 m c) 0)=zfp n.steps m c:=rfl
  rw[O];simp+decide[int,u32,stepsD,Nett.cells,ze3]
 have G:(k:Int)<n.steps.length:=by omega
 have hsn:(n.steps.take (k+1)).foldl (zb4 m c) 0=zb4 m c ((n.steps.take k).foldl (zb4 m c) 0) n.steps[k]:=by rw[zao H,List.foldl_append];rfl
 have K:(n.steps.take k).foldl (zb4 m c) 0<8:=zx1 (λx Q=>E x (List.mem_of_mem_take Q)) (by omega)
 obtain⟨s,es⟩:∃ s,n.steps[k]=s:=⟨_,rfl⟩
 have e1:n.steps[k]?=some s:=by rw[List.getElem?_eq_getElem H,es]
 have F:=E s (by rw[<-es];exact List.getElem_mem H)
 rw[es] at hsn
 generalize (n.steps.take k).foldl (zb4 m c) 0=out at hsn K
 have T:=yd7 m s.src J F.1.1 F.1.2
 have V:=yd9 n m c out K s F.2
 simp+decide[int,u32,stepsD,Nett.cells,Stp.row,ze3,H,G,e1,es,I64]
 refine zai.pure (by rfl) T (by simp[u32,int]) ?_
 cases X:hasS m s.src with
 |false=>
  have h2:zb4 m c out s=out:=by unfold zb4;rw[if_neg (by rw[X];simp)]
  rw[h2] at hsn;simp+decide[int,u32,stepsD,Nett.cells,Stp.row,ze3,H,G,e1,es,I64];exact⟨⟨by omega,by omega⟩,k+1,H,by omega,by omega,by rw[hsn]⟩
 |true=>
  have h2:zb4 m c out s=if s.cls=c then zlk out s.dst else out:=by unfold zb4;rw[X];simp
  rw[h2] at hsn;simp+decide[int,u32,stepsD,Nett.cells,Stp.row,ze3,H,G,e1,es,I64];refine zur.tO 0 [0,1,2] [.d (.agg s.row)] (ze3 n m c out .ready) (by simp[rho]) (by simp[Stp.row,int]) (by simp[Sym.los,Sym.lo]) (by simp[ze3,zeq,u32,int];rfl) V ?_
  simp+decide[int,u32,stepsD,Nett.cells,Stp.row,ze3,zeq,H,G,e1,es,I64];exact⟨⟨by omega,by omega⟩,k+1,H,by omega,by omega,by rw[hsn]⟩
theorem yip(n:Nett)(m:Nat)(c:Int)(H:zmi n.steps)(G:m<8)(F:n.steps.length<2^40):
  zan Tryz.prog 203 [.agg n.cells,u32 m,int c] (u32 (zfp n.steps m c)):=by
 refine zl6 Tryz.func203 rfl c_203 ?_
 refine zy9 mixed 2 {n:=22,next:=3,slots:=[(1,.d (u32 m)),(3,.bp 0 0),(5,.bp 1 0),(7,.bp 2 0)],own:=[(0,.box 33 (n.cells.map .d)),(1,.box 3 [.d (int c)]),(2,.box 218 [.d (u32 0)])]} rfl ?_ ?_
 .simp+decide[Tryz.f203,zij,Nett.cells,int,u32]
 simp only[zik]
 refine zrb (zy9 mixed 1 {n:=22,next:=3,slots:=[(5,.bp 1 0),(7,.bp 2 0),(11,.d (z4h n m))],own:=[(1,.box 3 [.d (int c)]),(2,.box 218 [.d (u32 0)])]} rfl ?_ ?_)
 .simp+decide[zij,Nett.cells,int,u32]
  refine zai.pure (by rfl) (yin n m) (by simp[Nett.cells,int,u32]) ?_
  simp+decide[Nett.cells,int,u32]
 simp only[zik]
 refine zoq (zop (k:=0) (ids:=[3,2,1]) (args0:=[.yd 0,.d (.ptr n.cells),.d (.ptr [u32 m])]) (own0:=ze3 n m c 0 .ready) (by rfl) (by simp[rho]) (by simp) (by simp[Sym.los,Sym.lo]) ?_ (yio n m c H G F) ?_)
 .simp+decide[ze3,zeq,rAs,rBd,zez,Tryz.f203,u32,int]
 .simp+decide[ze3,zeq,u32,int]
def runS(l:List Stp)(cs:List Int):Nat:=cs.foldl (λm c=>zfp l m c) 1
def zc9(l:List Int):Nat:=l.foldl zlk 0
theorem z4i{l:List Stp}(h:zmi l):∀ (cs:List Int) (m:Nat),m<8->cs.foldl (λm c=>zfp l m c) m<8
 | [],m,hm=>hm
 |c::cs,m,hm=>by rw[List.foldl_cons];exact z4i h cs _ (yd8 h m c)
theorem znk:∀ (l:List Int) (m:Nat),(∀ q∈l,0<=q/\q<3)->m<8->l.foldl zlk m<8
 | [],m,_,H=>H
 |q::l,m,h,H=>by
  rw[List.foldl_cons];exact znk l _ (λx hx=>h x (by simp[hx])) (z8e H (h q (by simp)).1 (h q (by simp)).2)
theorem yiq(n:Nett)(F:zmi n.steps)(K:n.steps.length<2^40)(cs:List Int)(J:cs.length<2^40):zan Tryz.prog 156 [.agg n.cells,ints cs] (u32 (runS n.steps cs)):=by
 refine zab mixed Tryz.func156 rfl c_156 ?_
 simp+decide[Tryz.f156,Nett.cells,int,ints,u32]
 refine zae mixed (λk:Nat=>{n:=20,next:=1,slots:=[(2,.bp 0 0),(5,.d (u32 (runS n.steps (cs.take k)))),(8,.d (ints cs)),(9,.d (int cs.length)),(10,.d (int k))],own:=[(0,.box 33 (n.cells.map .d))]})
  (λk=>k<=cs.length) (λk=>cs.length-k) 0 (by simp) (by simp+decide[int,ints,u32,Nett.cells,runS]) ?_
 intro k L
 by_cases H:k<cs.length
 case neg=>
  have:k=cs.length:=by omega
  subst this;rw[List.take_length];simp+decide[int,ints,u32]
 have G:(k:Int)<cs.length:=by omega
 have hsn:runS n.steps (cs.take (k+1))=zfp n.steps (runS n.steps (cs.take k)) cs[k]:=by unfold runS;rw[zao H,List.foldl_append];rfl
 have E:runS n.steps (cs.take k)<8:=z4i F _ 1 (by omega)
 obtain⟨c,ec⟩:∃ c,cs[k]=c:=⟨_,rfl⟩
 have e1:cs[k]?=some c:=by rw[List.getElem?_eq_getElem H,ec]
 rw[ec] at hsn
 generalize runS n.steps (cs.take k)=m at hsn E
 have M:=yip n m c F E K
 simp+decide[int,ints,u32,Nett.cells,H,G,e1,ec,I64]
 refine zai.pure (by rfl) M (by simp[u32,int,Nett.cells]) ?_
 simp+decide[int,ints,u32,Nett.cells,I64]
 exact⟨⟨by omega,by omega⟩,k+1,H,by omega,by rw[hsn],by omega⟩
theorem yal(n:Nett)(E:∀ q∈n.final,0<=q/\q<3)(K:n.final.length<2^40):zan Tryz.prog 157 [.agg n.cells] (u32 (zc9 n.final)):=by
 refine zab mixed Tryz.func157 rfl c_157 ?_
 simp+decide[Tryz.f157,Nett.cells,int,ints,u32]
 refine zae mixed (λk:Nat=>{n:=18,next:=1,slots:=[(3,.d (u32 (zc9 (n.final.take k)))),(7,.d (ints n.final)),(8,.d (int n.final.length)),(9,.d (int k))],own:=[]})
  (λk=>k<=n.final.length) (λk=>n.final.length-k) 0 (by simp) (by simp+decide[int,ints,u32,Nett.cells,zc9]) ?_
 intro k J
 by_cases H:k<n.final.length
 case neg=>
  have:k=n.final.length:=by omega
  subst this;rw[List.take_length];simp+decide[int,ints,u32]
 have G:(k:Int)<n.final.length:=by omega
 have hsn:zc9 (n.final.take (k+1))=zlk (zc9 (n.final.take k)) n.final[k]:=by unfold zc9;rw[zao H,List.foldl_append];rfl
 have F:zc9 (n.final.take k)<8:=znk _ 0 (λx L=>E x (List.mem_of_mem_take L)) (by omega)
 have M:=E n.final[k] (List.getElem_mem H)
 obtain⟨c,ec⟩:∃ c,n.final[k]=c:=⟨_,rfl⟩
 have e1:n.final[k]?=some c:=by rw[List.getElem?_eq_getElem H,ec]
 rw[ec] at hsn M
 generalize zc9 (n.final.take k)=m at hsn F
 have O:=zv2 m c F M.1 M.2
 simp+decide[int,ints,u32,Nett.cells,H,G,e1,ec,I64]
 refine zai.pure (by rfl) O (by simp[u32,int,Nett.cells]) ?_
 simp+decide[int,ints,u32,Nett.cells,I64]
 exact⟨⟨by omega,by omega⟩,k+1,H,by omega,by rw[hsn],by omega⟩
def yly(n:Nett):Prop:=zmi n.steps/\(∀ q∈n.final,0<=q/\q<3)/\n.steps.length<2^40/\n.final.length<2^40
theorem yir:∀ (a b:Fin 8),(zjn .and .u32 (a.val:Int) (b.val:Int))=((a.val &&& b.val:Nat):Int):=by decide +kernel
def zg4(n:Nett)(cs:List Int):Bool:=decide (runS n.steps cs &&& zc9 n.final≠0)
theorem yam(n:Nett)(H:yly n)(cs:List Int)(G:cs.length<2^40):zan Tryz.prog 94 [.agg n.cells,ints cs] (.bool (zg4 n cs)):=by
 obtain⟨F,h2,E,K⟩:=H
 have w1:=yiq n F E cs G
 have w2:=yal n h2 K
 have l1:runS n.steps cs<8:=z4i F cs 1 (by omega)
 have l2:zc9 n.final<8:=znk _ 0 h2 (by omega)
 unfold zg4
 generalize runS n.steps cs=a at w1 l1 ⊢
 generalize zc9 n.final=b at w2 l2 ⊢
 have J:=yir ⟨a,l1⟩ ⟨b,l2⟩
 simp only at J
 refine zab mixed Tryz.func94 rfl c_94 ?_
 simp+decide[Tryz.f94,Nett.cells,int,ints]
 refine zaa (by rfl) (by rfl) w1 (by simp[u32,int,Nett.cells]) ?_
 simp+decide[int,ints,u32,Nett.cells,I64]
 refine zaa (by rfl) (by rfl) w2 (by simp[u32,int,Nett.cells]) ?_
 simp+decide[int,ints,u32,Nett.cells,I64,J]
theorem yis(e:Ent)(id:Int):zan Tryz.prog 98 [.agg e.row,.ptr [int id]] (.bool (decide (e.id=id))):=by
 refine zab mixed Tryz.func98 rfl c_98 ?_
 simp+decide[Tryz.f98,Ent.row,int]
theorem yea(l:List Ent)(id:Int)(F:l.length<2^62):zan Tryz.prog 97 [lexD l,.fn 98 [.ptr [int id]]] (int (zeb l id)):=by
 refine zab mixed Tryz.func97 rfl c_97 ?_
 simp[Tryz.f97,lexD]
 refine zae mixed (λk:Nat=>{n:=19,next:=0,slots:=[(0,.d (lexD l)),(1,.d (.fn 98 [.ptr [int id]])),(6,.d (lexD l)),(7,.d (.int .i64 l.length)),(8,.d (.int .i64 k))],own:=[]})
  (λk=>k<=l.length/\∀ e∈l.take k,e.id≠id) (λk=>l.length-k) 0 (by simp) (by simp[lexD]) ?_
 intro k ⟨E,K⟩
 by_cases H:k<l.length
 .have G:(k:Int)<l.length:=by omega
  obtain⟨e,ee⟩:∃ e,l[k]=e:=⟨_,rfl⟩;have e1:l[k]?=some e:=by rw[List.getElem?_eq_getElem H,ee]
  simp+decide[lexD,Ent.row,int,e1,ee,H,G,I64];refine zai.pure (by rfl) (yis e id) (by simp[Ent.row,int]) ?_
  by_cases J:e.id=id
  .have:=zsz H K (by rw[ee];exact J)
   simp+decide[lexD,int,J,I64,zeb,this]
  .simp+decide[lexD,int,J,I64]
   exact⟨⟨by omega,by omega⟩,k+1,⟨H,znh H K (by rw[ee];exact J)⟩,by omega,by omega⟩
 .have:k=l.length:=by omega
  subst this;simp+decide[lexD,int];simp[zeb,zo7 (by simpa using K)]
theorem zda(l:List Ent)(id:Int):(zeb l id<0/\getE l id=(Ent.zero,false))\/∃ k:Nat,∃ h:k<l.length,zeb l id=k/\getE l id=(l[k],true):=by
 unfold zeb getE
 cases h:l.findIdx? (·.id=id) with
 |none=>
  left
  rw[List.findIdx?_eq_none_iff] at h;have:l.find? (·.id=id)=none:=by rw[List.find?_eq_none];intro x H;simpa using h x H
  rw[this];exact⟨by simp,rfl⟩
 |some k=>
  right
  rw[List.findIdx?_eq_some_iff_getElem] at h;obtain⟨G,h2,F⟩:=h;refine⟨k,G,rfl,?_⟩
  have:l.find? (·.id=id)=some l[k]:=by
   rw[List.find?_eq_some_iff_getElem];exact⟨h2,k,G,rfl,λj E=>by simpa using F j E⟩
  rw[this]
theorem znl(l:List Ent)(id:Int)(F:l.length<2^40):zan Tryz.prog 42 [lexD l,int id] (.tup [.agg (getE l id).1.row,.bool (getE l id).2]):=by
 refine zab mixed Tryz.func42 rfl c_42 ?_
 simp+decide[Tryz.f42,lexD,int]
 refine zai.pure (by rfl) (yea l id (by omega)) (λ_=>rfl) ?_
 rcases zda l id with⟨E,h2⟩ | ⟨k,K,E,h2⟩
 .rw[h2]
  simp+decide[lexD,int,E,Ent.zero,Ent.row,ints,zcb,zbv,lnkD,rfD]
 .rw[h2,E]
  have H:¬(k:Int)<0:=by omega
  have G:(k:Int)<l.length:=by omega
  simp+decide[lexD,int,H,K,G,Ent.row,ints,zcb,zbv,lnkD,rfD]
def wayR(l:List Ent):Nat->Int->Option (List Sens)
 |0,_=>none
 |f+1,id=>if (getE l id).2=true then (if (getE l id).1.senses≠[] then some (getE l id).1.senses else if (getE l id).1.main=0 then none else wayR l f (getE l id).1.main) else none
def zec(l:List Ent)(id:Int):List Sens:=(wayR l (l.length+1) id).getD []
theorem z0m(l:List Sens)(H:l.length<2^40):zan Tryz.prog 103 [zbv l] (zbv l):=by
 refine zab mixed Tryz.func103 rfl c_103 ?_
 simp+decide[Tryz.f103,zbv,maxLen]
 exact⟨λa _=>rfl,by omega,by omega⟩
def zc5:List Sym:=[.junk,.junk,.junk,.junk,.bp 1 0,.junk,.junk,.junk,.fn 160 [.bp 2 0,.bp 3 0],.junk,.junk,.junk,.junk,.junk,.junk,.junk,.junk]
@[simp] theorem ylz:Sym.los 4 zc5:=by simp[zc5,Sym.los,Sym.lo]
@[simp] theorem yku:rens (rho' [0,1,2,3] 5) zc5=zc5:=rfl
noncomputable def zd6(s:LoopState)(pd:Option Code):Obj':=.raw (.lp #[9] (rAs Tryz.f45) (rBd Tryz.f45) s pd) zc5
noncomputable def zdl(l:List Ent)(id:Int):List (Nat×Obj'):=
 [(0,zd6 .ready none),(1,.box 98 [.nils]),(2,.box 34 [.d (lexD l)]),(3,.box 3 [.d (int id)])]
noncomputable def zx2(l:List Ent)(id:Int)(ss:List Sens):List (Nat×Obj'):=
 [(0,zd6 .done (some .ret)),(1,.box 98 [.d (zbv ss)]),(2,.box 34 [.d (lexD l)]),(3,.box 3 [.d (int id)])]
theorem yan(l:List Ent)(id:Int)(e:Ent)(H:e.senses=[]):
  zuw Tryz.prog 0 [.d (.agg e.row)] (zdl l id) 4 (.d (.bool true)) 4 (zdl l id) []:=by
 refine zy7 (cells:=zc5) (ps:=#[9]) (aS := rAs Tryz.f45) (bd:=rBd Tryz.f45) rfl (by simp) (by simp[zc5]) (by omega) (by simp[Sym.los,Sym.lo]) ?_
 simp+decide[zdl,zd6,zc5,rAs,rBd,zez,Tryz.f45,Ent.row,int,H,zbv]
theorem yao(l:List Ent)(id:Int)(e:Ent)(H:e.senses≠[])(G:e.senses.length<2^40):
  zuw Tryz.prog 0 [.d (.agg e.row)] (zdl l id) 4 (.d (.bool false)) 4 (zx2 l id e.senses) []:=by
 refine zy7 (cells:=zc5) (ps:=#[9]) (aS := rAs Tryz.f45) (bd:=rBd Tryz.f45) rfl (by simp) (by simp[zc5]) (by omega) (by simp[Sym.los,Sym.lo]) ?_
 have F:=z0m e.senses G
 have E:(0:Int)<e.senses.length:=by
  have:e.senses.length≠0:=λe2=>H (List.eq_nil_of_length_eq_zero e2)
  omega
 simp+decide[zdl,zx2,zd6,zc5,rAs,rBd,zez,Tryz.f45,Ent.row,int,H,E,zbv]
 intro _
 refine zai.pure (by rfl) F (by simp[zbv]) ?_
 simp+decide[zdl,zx2,zd6,zc5,int,zbv]
noncomputable def zqi:Option (List Sens)->List (Nat×Obj')
 |none=>[(0,zd6 .ready none),(1,.box 98 [.nils])]
 |some ss=>[(0,zd6 .done (some .ret)),(1,.box 98 [.d (zbv ss)])]
theorem yit(l:List Ent)(id:Int)(L:l.length<2^40)(hs:∀ e∈l,e.senses.length<2^40):
  zbl Tryz.prog 160 [.yd 0,.bp 2 0,.bp 3 0] (zdl l id) 4 (.d (.tup [])) 4 (zqi (wayR l (l.length+1) id)) []:=by
 refine zbl.ynd (za6 mixed Tryz.func160 rfl c_160 (by simp[Sym.los,Sym.lo]) ?_)
 simp+decide[Tryz.f160,zdl,lexD,int,I64]
 refine⟨⟨by omega,by omega⟩,?_⟩
 refine zax mixed (λx:Nat×Int=>{n:=33,next:=4,base:=4,slots:=[(0,.yd 0),(1,.bp 2 0),(2,.bp 3 0),(8,.d (int (l.length+1))),(9,.d (int x.1))],own:=zdl l x.2})
  (λx=>x.1<=l.length+1/\wayR l (l.length+1-x.1) x.2=wayR l (l.length+1) id) (λx=>l.length+1-x.1) (0,id) (by simp) (by simp+decide[int,lexD,zdl,zd6]) ?_
 rintro⟨k,i⟩ ⟨M,O⟩
 simp only at M O
 refine zoo ?_
 by_cases G:k<l.length+1
 case neg=>
  have:k=l.length+1:=by omega
  subst this;rw[Nat.sub_self] at O;rw[<-O];simp+decide[int,lexD,zdl,zd6,wayR,zqi]
 have H:(k:Int)<l.length+1:=by omega
 rw[show l.length+1-k=(l.length-k)+1 by omega,wayR] at O
 have Q:=znl l i L
 have F:(getE l i).2=true->(getE l i).1∈l:=by
  rcases zda l i with⟨_,h2⟩ | ⟨j,T,_,h2⟩
  .rw[h2];intro h;cases h
  .rw[h2];intro _;exact List.getElem_mem T
 generalize getE l i=g at O Q F
 obtain⟨e,ok⟩:=g
 simp only at O Q F
 simp+decide[int,lexD,zdl,zd6,G,H]
 refine zai.pure (by rfl) Q (by simp[lexD,int]) ?_
 cases ok with
 |false=>
  simp only[Bool.false_eq_true,if_false] at O;rw[<-O];simp+decide[int,lexD,zdl,zd6,zqi,Ent.row,G,H]
 |true=>
  simp only[if_true] at O;have J:=F rfl;by_cases E:e.senses=[]
  .have V:=yan l i e E
   rw[if_neg (by simp[E])] at O
   simp+decide[int,lexD,zdl,zd6,Ent.row,G,H];refine zur.tO 0 [0,1,2,3] [.d (.agg e.row)] (zdl l i) (by simp[rho]) (by simp[Ent.row,int]) (by simp[Sym.los,Sym.lo]) (by simp[zdl,zd6,zc5,lexD,int];rfl) V ?_
   by_cases K:e.main=0
   .rw[if_pos K] at O
    rw[<-O];simp+decide[int,lexD,zdl,zd6,zqi,Ent.row,G,H,K]
   .rw[if_neg K] at O
    simp+decide[int,lexD,zdl,zd6,zqi,Ent.row,G,H,K];exact⟨by unfold I64;omega,k+1,e.main,⟨by omega,by rw[show l.length+1-(k+1)=l.length-k by omega];exact O⟩,by omega,by omega,rfl⟩
  .have V:=yao l i e E (hs e J)
   rw[if_pos E] at O;rw[<-O];simp+decide[int,lexD,zdl,zd6,Ent.row,G,H];refine zur.tO 0 [0,1,2,3] [.d (.agg e.row)] (zdl l i) (by simp[rho]) (by simp[Ent.row,int]) (by simp[Sym.los,Sym.lo]) (by simp[zdl,zd6,zc5,lexD,int];rfl) V ?_
   simp+decide[int,lexD,zx2,zd6,zqi,Ent.row,G,H]
theorem yn7(l:List Ent)(id:Int):zbl Tryz.prog 102 [.d (lexD l),.d (int id)] [] 0 (.fn 160 [.bp 0 0,.bp 1 0]) 2 [(0,.box 34 [.d (lexD l)]),(1,.box 3 [.d (int id)])] []:=by
 refine za6 mixed Tryz.func102 rfl c_102 (by simp[Sym.los,Sym.lo]) ?_
 simp+decide[Tryz.f102,lexD,int]
theorem z0n(l:List Ent)(id:Int)(H:l.length<2^40)(hs:∀ e∈l,e.senses.length<2^40):zan Tryz.prog 45 [lexD l,int id] (zbv (zec l id)):=by
 refine zl6 Tryz.func45 rfl c_45 ?_
 refine zy9 mixed 1 {n:=17,next:=1,slots:=[(0,.d (lexD l)),(1,.d (int id)),(4,.bp 0 0)],own:=[(0,.box 98 [.nils])]} rfl ?_ ?_
 .simp+decide[Tryz.f45,zij,lexD,int]
 simp only[zik]
 refine zrb (zy9 mixed 1 {n:=17,next:=3,slots:=[(4,.bp 0 0),(8,.fn 160 [.bp 1 0,.bp 2 0])],own:=[(0,.box 98 [.nils]),(1,.box 34 [.d (lexD l)]),(2,.box 3 [.d (int id)])]} rfl ?_ ?_)
 .simp+decide[zij,lexD,int]
  refine zai.mut [] [.d (lexD l),.d (int id)] [] (by rfl) (by simp[lexD,int]) (by simp) (by simp) (yn7 l id) ?_
  simp+decide[lexD,int]
 simp only[zik]
 refine zoq (zop (k:=0) (ids:=[3,0,1,2]) (args0:=[.yd 0,.bp 2 0,.bp 3 0]) (own0:=zdl l id) (by rfl) (by simp[rho]) (by simp) (by simp[Sym.los,Sym.lo]) ?_ (yit l id H hs) ?_)
 .simp+decide[zdl,zd6,zc5,rAs,rBd,zez,Tryz.f45,int,lexD]
 .unfold zec
  cases wayR l (l.length+1) id with
  |none=>
   simp+decide[zqi,zd6,int,lexD,zbv]
  |some ss=>
   simp+decide[zqi,zd6,int,lexD]
structure LexFit(l:List Ent):Prop where
 len:l.length<2^40
 alts:∀ e∈l,e.alts.length<2^39
 form:∀ e∈l,∀ w∈e.forms,w.length<2^20
 senses:∀ e∈l,e.senses.length<2^40
theorem znm{l:List Ent}{id:Int}(h:(getE l id).2=true):(getE l id).1∈l:=by
 rcases zda l id with⟨_,h2⟩ | ⟨j,H,_,h2⟩
 .rw[h2] at h;cases h
 .rw[h2];exact List.getElem_mem H
theorem zhx{l:List Ent}(h:LexFit l)(id:Int):(getE l id).1.alts.length<2^39:=by
 cases H:(getE l id).2 with
 |true=>exact h.alts _ (znm H)
 |false=>
  rcases zda l id with⟨_,h2⟩ | ⟨j,G,_,h2⟩
  .rw[h2];simp[Ent.zero]
  .rw[h2] at H;cases H
theorem z0o(e:Ent)(h:e.alts.length<2^40):zan Tryz.prog 44 [.agg e.row] (zcb e.forms):=by
 refine zab mixed Tryz.func44 rfl c_44 ?_
 simp[Tryz.f44,Ent.row,zcb,ints,Ent.forms,maxLen]
 omega
def zaz:D->List Sym
 |.agg l=>l.map .d
 |_=>[]
def zhg(l:List Ent)(p:Prt):Ent×List Int×Bool:=
 if (getE l p.entry).2=true/\0<=p.alt/\p.alt<(getE l p.entry).1.forms.length then ((getE l p.entry).1,((getE l p.entry).1.forms[p.alt.toNat]?.getD []),true) else ((getE l p.entry).1,[],false)
def zrl(r:Ent×List Int×Bool):D:=.tup [.agg r.1.row,ints r.2.1,.bool r.2.2]
theorem z4j(g:Lang)(K:LexFit g.lex)(p:Prt):zan Tryz.prog 93 [g.d,.agg p.row] (zrl (zhg g.lex p)):=by
 have J:=znl g.lex p.entry K.len
 have L:=zhx K p.entry
 unfold zhg
 generalize getE g.lex p.entry=r at J L
 obtain⟨e,ok⟩:=r
 simp only at J L
 have M:=z0o e (by omega)
 have E:e.forms.length=e.alts.length+1:=by simp[Ent.forms]
 refine zab mixed Tryz.func93 rfl c_93 ?_
 simp+decide[Tryz.f93,Lang.d,Prt.row,int]
 refine zai.pure (by rfl) J (by simp[lexD,int]) ?_
 simp+decide[int,Ent.row]
 refine zai.pure (by rfl) M (by simp[lexD,int]) ?_
 cases ok with
 |false=>
  simp+decide[int,Ent.row,zrl,ints]
 |true=>
  by_cases O:p.alt<0
  .have H:¬0<=p.alt:=by omega
   simp+decide[int,Ent.row,zrl,ints,O,H];done
  have H:0<=p.alt:=by omega
  by_cases Q:p.alt<e.forms.length
  .have F:p.alt.toNat<e.forms.length:=by omega
   obtain⟨w,ew⟩:∃ w,e.forms[p.alt.toNat]=w:=⟨_,rfl⟩;have e1:e.forms[p.alt.toNat]?=some w:=by rw[List.getElem?_eq_getElem F,ew]
   have G:¬(e.forms.length:Int)<=p.alt:=by omega
   simp+decide[int,Ent.row,zcb,zrl,O,H,Q,G,e1,ew];refine yhb mixed 6 2 (by rfl) rfl rfl rfl rfl (by rfl) (by simp) ?_
   simp+decide[int,Ent.row,zcb,zrl,ints,O,H,Q,G,e1,ew,F]
  .have G:(e.forms.length:Int)<=p.alt:=by omega
   simp+decide[int,Ent.row,zcb,zrl,ints,O,H,Q,G]
def zct(l:List Ent)(ps:List Prt):List Int:=ps.flatMap λp=>if (zhg l p).2.2=true then [(zhg l p).1.cls] else []
def zdz(l:List Ent)(ps:List Prt):List Int:=ps.flatMap λp=>if (zhg l p).2.2=true then (zhg l p).2.1 else []
theorem znn{l:List Ent}{ps:List Prt}{k:Nat}(h:k<ps.length):zct l (ps.take (k+1))=zct l (ps.take k)++(if (zhg l ps[k]).2.2=true then [(zhg l ps[k]).1.cls] else []):=by
 unfold zct;rw[zao h,List.flatMap_append,List.flatMap_singleton]
theorem zv3{l:List Ent}{ps:List Prt}{k:Nat}(h:k<ps.length):zdz l (ps.take (k+1))=zdz l (ps.take k)++(if (zhg l ps[k]).2.2=true then (zhg l ps[k]).2.1 else []):=by
 unfold zdz;rw[zao h,List.flatMap_append,List.flatMap_singleton]
theorem zfq(l:List Ent):∀ ps:List Prt,(zct l ps).length<=ps.length
 | []=>by simp[zct]
 |p::ps=>by
  have:=zfq l ps
  unfold zct at this ⊢;rw[List.flatMap_cons,List.length_append,List.length_cons];split <;> simp only[List.length_singleton,List.length_nil] <;> omega
theorem zs4{l:List Ent}(h:LexFit l)(p:Prt):(zhg l p).2.1.length<2^20:=by
 unfold zhg
 split
 .rename_i hc
  have H:p.alt.toNat<(getE l p.entry).1.forms.length:=by omega
  show((getE l p.entry).1.forms[p.alt.toNat]?.getD []).length<_
  rw[List.getElem?_eq_getElem H];exact h.form _ (znm hc.1) _ (List.getElem_mem H)
 .simp
theorem zhy{l:List Ent}(h:LexFit l):∀ ps:List Prt,(zdz l ps).length<=ps.length*2^20
 | []=>by simp[zdz]
 |p::ps=>by
  have H:=zhy h ps;have h2:=zs4 h p;unfold zdz at H ⊢;rw[List.flatMap_cons,List.length_append,List.length_cons,Nat.add_mul];split
  .omega
  .simp only[List.length_nil];omega
theorem yap(g:Lang)(E:LexFit g.lex)(ps:List Prt)(K:ps.length<2^20):zan Tryz.prog 95 [g.d,anaD ps] (ints (zct g.lex ps)):=by
 refine zab mixed Tryz.func95 rfl c_95 ?_
 simp+decide[Tryz.f95,Lang.d,anaD,zat,int]
 refine zae mixed (λk:Nat=>{n:=33,next:=4,slots:=[(2,.bp 0 0),(5,.ar 3),(12,.d (zat ps)),(13,.d (int ps.length)),(14,.d (int k))],own:=[(0,.box 36 (zaz g.d)),(3,.arr 3 1 ((zct g.lex (ps.take k)).map λn=>[int n]))],moved:=[3]})
  (λk=>k<=ps.length) (λk=>ps.length-k) 0 (by simp) (by simp+decide[int,zat,zct,zaz,Lang.d]) ?_
 intro k J
 by_cases H:k<ps.length
 case neg=>
  have:k=ps.length:=by omega
  subst this;rw[List.take_length];simp+decide[int,ints,zat]
 have G:(k:Int)<ps.length:=by omega
 have hsn:=znn (l:=g.lex) H
 have F:=zfq g.lex (ps.take k)
 rw[List.length_take] at F
 obtain⟨p,ep⟩:∃ p,ps[k]=p:=⟨_,rfl⟩
 have e1:ps[k]?=some p:=by rw[List.getElem?_eq_getElem H,ep]
 rw[ep] at hsn
 have L:=z4j g E p
 generalize zhg g.lex p=r at L hsn
 obtain⟨e,w,ok⟩:=r
 simp only at hsn
 simp+decide[int,zat,Prt.row,H,G,e1,ep,I64,zaz,Lang.d]
 refine zai.pure (by rfl) L (by simp[Lang.d,Prt.row,int]) ?_
 cases ok with
 |false=>
  simp only[Bool.false_eq_true,if_false,List.append_nil] at hsn;simp+decide[zrl,int,ints,Ent.row,zat,Prt.row,I64,zaz,Lang.d];exact⟨⟨by omega,by omega⟩,k+1,H,by omega,by omega,by rw[hsn]⟩
 |true=>
  simp only[if_true] at hsn;simp+decide[zrl,int,ints,Ent.row,zat,Prt.row,I64,zaz,Lang.d];exact⟨by omega,by unfold maxLen;omega,⟨by omega,by omega⟩,k+1,H,by omega,by omega,by rw[hsn];simp⟩
theorem yeb(g:Lang)(K:LexFit g.lex)(ps:List Prt)(J:ps.length<2^20):zan Tryz.prog 96 [g.d,anaD ps] (ints (zdz g.lex ps)):=by
 refine zab mixed Tryz.func96 rfl c_96 ?_
 simp+decide[Tryz.f96,Lang.d,anaD,zat,int]
 refine zae mixed (λk:Nat=>{n:=31,next:=4,slots:=[(2,.bp 0 0),(5,.ar 3),(12,.d (zat ps)),(13,.d (int ps.length)),(14,.d (int k))],own:=[(0,.box 36 (zaz g.d)),(3,.arr 3 1 ((zdz g.lex (ps.take k)).map λn=>[int n]))],moved:=[3]})
  (λk=>k<=ps.length) (λk=>ps.length-k) 0 (by simp) (by simp+decide[int,zat,zdz,zaz,Lang.d]) ?_
 intro k L
 by_cases H:k<ps.length
 case neg=>
  have:k=ps.length:=by omega
  subst this;rw[List.take_length];simp+decide[int,ints,zat]
 have G:(k:Int)<ps.length:=by omega
 have hsn:=zv3 (l:=g.lex) H
 have F:=zhy K (ps.take k)
 rw[List.length_take] at F
 obtain⟨p,ep⟩:∃ p,ps[k]=p:=⟨_,rfl⟩
 have e1:ps[k]?=some p:=by rw[List.getElem?_eq_getElem H,ep]
 rw[ep] at hsn
 have M:=z4j g K p
 have E:=zs4 K p
 generalize zhg g.lex p=r at M hsn E
 obtain⟨e,w,ok⟩:=r
 simp only at hsn E
 simp+decide[int,zat,Prt.row,H,G,e1,ep,I64,zaz,Lang.d]
 refine zai.pure (by rfl) M (by simp[Lang.d,Prt.row,int]) ?_
 cases ok with
 |false=>
  simp only[Bool.false_eq_true,if_false,List.append_nil] at hsn;simp+decide[zrl,int,ints,Ent.row,zat,Prt.row,I64,zaz,Lang.d];exact⟨⟨by omega,by omega⟩,k+1,H,by omega,by omega,by rw[hsn]⟩
 |true=>
  simp only[if_true] at hsn;simp+decide[zrl,int,ints,Ent.row,zat,Prt.row,I64,zaz,Lang.d];exact⟨by omega,by unfold maxLen;omega,⟨by omega,by omega⟩,k+1,H,by omega,by omega,by rw[hsn];simp⟩
def idxL(l:List Int)(x:Int):Int:=match l.findIdx? (· = x) with
 |some k=>k
 |none=>-1
theorem zx3(l:List Int)(x:Int):(0<=idxL l x↔x∈l):=by
 unfold idxL
 cases h:l.findIdx? (· = x) with
 |none=>
  rw[List.findIdx?_eq_none_iff] at h;constructor
  .intro e;change (0:Int)<=-1 at e;omega
  .intro e;have:=h x e;simp at this
 |some k=>
  rw[List.findIdx?_eq_some_iff_getElem] at h;obtain⟨H,h2,_⟩:=h;constructor
  .intro _;have G:l[k]=x:=by simpa using h2
   rw[<-G];exact List.getElem_mem H
  .intro _;exact Int.natCast_nonneg k
theorem z8f(l:List Int)(x:Int)(E:l.length<2^62):zan Tryz.prog 167 [ints l,int x] (int (idxL l x)):=by
 refine zab mixed Tryz.func167 rfl c_167 ?_
 simp[Tryz.f167,ints]
 refine zae mixed (λk:Nat=>{n:=19,next:=0,slots:=[(0,.d (ints l)),(1,.d (int x)),(6,.d (ints l)),(7,.d (.int .i64 l.length)),(8,.d (.int .i64 k))],own:=[]})
  (λk=>k<=l.length/\∀ y∈l.take k,y≠x) (λk=>l.length-k) 0 (by simp) (by simp[ints,int]) ?_
 intro k ⟨K,J⟩
 by_cases H:k<l.length
 .have G:(k:Int)<l.length:=by omega
  obtain⟨c,ec⟩:∃ c,l[k]=c:=⟨_,rfl⟩;have e1:l[k]?=some c:=by rw[List.getElem?_eq_getElem H,ec]
  by_cases L:c=x
  .have M:l.findIdx? (· = x)=some k:=by
    rw[List.findIdx?_eq_some_iff_getElem];refine⟨H,by simpa[ec] using L,λj hj=>?_⟩
    have:=J l[j] (by rw[List.mem_take_iff_getElem];exact⟨j,by omega,rfl⟩)
    simpa using this
   subst L;simp+decide[ints,int,e1,ec,H,G,I64,idxL,M]
  .have F:¬x=c:=λe=>L e.symm
   simp+decide[ints,int,e1,ec,H,G,L,F,I64];exact⟨⟨by omega,by omega⟩,k+1,⟨H,znh H J (by rw[ec];exact L)⟩,by omega,by omega⟩
 .have:k=l.length:=by omega
  subst this;have M:l.findIdx? (· = x)=none:=by
   rw[List.findIdx?_eq_none_iff];intro y O;have:=J y (by rwa [List.take_length]);simpa using this
  simp+decide[ints,int,idxL,M]
theorem z0p(l:List Int)(x:Int)(H:l.length<2^62):zan Tryz.prog 116 [ints l,int x] (.bool (decide (x∈l))):=by
 refine zab mixed Tryz.func116 rfl c_116 ?_
 simp+decide[Tryz.f116,int,ints]
 refine zai.pure (by rfl) (z8f l x H) (λ_=>rfl) ?_
 have:=zx3 l x
 simp+decide[int,this]
theorem z0q(l:List Int)(x:Int)(H:l.length<2^62):zan Tryz.prog 60 [ints l,int x] (.bool (decide (x∈l))):=by
 refine zab mixed Tryz.func60 rfl c_60 ?_
 simp+decide[Tryz.f60,int,ints]
 refine zai.pure (by rfl) (z0p l x H) (by simp) ?_
 simp+decide[int]
def ctxD(inv:List Phon)(cs:List Cls):D:=.agg [invD inv,clsD cs]
theorem yiu(inv:List Phon)(cs:List Cls)(k:Nat)(G:k<cs.length)(n:Int)(F:inv.length<2^62):zan Tryz.prog 281 [ctxD inv cs,int k,int n] (.bool (zlj inv n cs[k])):=by
 have H:(k:Int)<cs.length:=by omega
 obtain⟨c,ec⟩:∃ c,cs[k]=c:=⟨_,rfl⟩
 have e1:cs[k]?=some c:=by rw[List.getElem?_eq_getElem G,ec]
 rw[ec]
 refine zab mixed Tryz.func281 rfl c_281 ?_
 simp+decide[Tryz.f281,int,ctxD,clsD,Cls.row,G,H,e1,ec]
 refine zaa (by rfl) (by rfl) (ypb inv n c F) (by simp[int,Cls.row]) ?_
 simp+decide[int]
def zno(inv:List Phon)(cs:List Cls)(ws:List Int):Bool:=(ws.zip cs).all λx=>zlj inv x.1 x.2
theorem yiv{α β:Type}{a:List α}{b:List β}{k:Nat}(h:k<a.length)(H:k<b.length):(a.take (k+1)).zip (b.take (k+1))=(a.take k).zip (b.take k)++[(a[k],b[k])]:=by
 rw[zao h,zao H,List.zip_append (by rw[List.length_take,List.length_take];omega)];rfl
theorem yec(inv:List Phon)(cs:List Cls)(ws:List Int)(J:ws.length=cs.length)(L:inv.length<2^62)(M:cs.length<2^62):
  zan Tryz.prog 280 [.fn 281 [],ctxD inv cs,ints ws] (.bool (zno inv cs ws)):=by
 refine zab mixed Tryz.func280 rfl c_280 ?_
 simp+decide[Tryz.f280,int,ctxD,ints]
 refine zae mixed (λk:Nat=>{n:=23,next:=1,slots:=[(0,.d (.fn 281 [])),(4,.bp 0 0),(9,.d (ints ws)),(10,.d (.int .i64 ws.length)),(11,.d (.int .i64 k))],own:=[(0,.box 319 [.d (invD inv),.d (clsD cs)])]})
  (λk=>k<=ws.length/\((ws.take k).zip (cs.take k)).all (λx=>zlj inv x.1 x.2)=true) (λk=>ws.length-k) 0 (by simp) (by simp[ints,int]) ?_
 intro k ⟨O,Q⟩
 by_cases H:k<ws.length
 .have G:(k:Int)<ws.length:=by omega
  have E:k<cs.length:=by omega
  have T:=yiu inv cs k E ws[k] L;have hsn:=yiv H E;obtain⟨c,ec⟩:∃ c,ws[k]=c:=⟨_,rfl⟩;have e1:ws[k]?=some c:=by rw[List.getElem?_eq_getElem H,ec]
  rw[ec] at T hsn;simp+decide[ints,int,e1,ec,H,G,I64];refine zai.pure (by rfl) T (by simp[ctxD,int]) ?_
  cases V:zlj inv c cs[k] with
  |true=>
   simp+decide[ints,int,I64];refine⟨⟨by omega,by omega⟩,k+1,⟨H,?_⟩,by omega,by omega⟩
   intro x y K;have F:((ws.take (k+1)).zip (cs.take (k+1))).all (λx=>zlj inv x.1 x.2)=true:=by rw[hsn,List.all_append,Q,Bool.true_and];simp[V]
   exact List.all_eq_true.1 F (x,y) K
  |false=>
   have X:zno inv cs ws=false:=by
    unfold zno;rw[List.all_eq_false];refine⟨(c,cs[k]),?_,by rw[V];decide⟩
    rw[List.mem_iff_getElem];exact⟨k,by rw[List.length_zip];omega,by rw[List.getElem_zip,ec]⟩
   simp+decide[ints,int,I64,X]
 .have:k=ws.length:=by omega
  subst this;rw[List.take_length,J,List.take_length] at Q;have X:zno inv cs ws=true:=Q
  simp+decide[ints,int,X]
end Go.V
namespace Go.V.Doc
open Go Go.Proofs
theorem zg5{P:Program}{f:Nat}{ds:List D}{s:Sym}{k T sz nx:Nat}{rows:List (List D)}{mv:List Nat}{r:D}(h:zbl P f (ds.map .d) [] 0 s nx [(k,.arr T sz rows)] mv)(J:∀ w E β v,Sm w E β (thaw k (.sl rows) s) v->R w E r v):zan P f ds r:=by
 refine⟨h.1,λw E vs L M=>?_⟩
 have O:Mods E (.of w) (zbt [] 0 0 []) (λ_=>.pointer none) act0 w:=
  ⟨⟨λb Q hmay=>hmay.elim (λh=>by have:w.heap.size<=b:=h;have:=L.1 b Q;omega) (λh=>h),L.2.over (Over.less λb h=>h.elim id False.elim)⟩,⟨Nat.le_refl _,λ_ _ _=>rfl⟩,λ_=>rfl,rfl,rfl,Kept.refl _,by simp[zbt],by simp[zbt],by simp[zbt],by intro t s J;simp[zbt,zac] at J⟩
 have G:Over w E w (Ex E (λ_=>Value.pointer none) []):=Over.less λb Q=>Q.elim id λ⟨_,_,V,_⟩=>by cases V
 refine(h.2 E (.of w) _ w vs rfl O (Sms.zd1 (za9.over G _ _ M))).mono λe w' X=>?_
 obtain⟨β',v,rfl,H,F,hs⟩:=X
 let st1:St:={n:=1,next:=nx,slots:=[(0,s)],own:=[(k,.arr T sz rows)],moved:=mv}
 have m1:Mods E (.of w) st1 β' {tmps:=#[v],defers:=[]} w':=by
  refine⟨H.outer,H.still,H.one,rfl,rfl,H.below,H.keys,H.own,H.apart,λt s' hs'=>?_⟩
  simp only[st1,zac] at hs';split at hs'
  .rename_i e;subst e;cases hs';exact⟨F,by simpa using hs⟩
  .cases hs'
 have m2:=m1.frz k
 have K:st1.look k=some (.arr T sz rows):=by simp[st1,St.look,zac]
 unfold St.frz at m2
 rw[K] at m2
 have Y:=(m2.slots 0 (thaw k (.sl rows) s) (by simp[st1,zcp,zac])).2
 have Z:R w' (Ex E β' (zcm k (.sl rows) st1.own)) r v:=J _ _ _ _ (by simpa using Y)
 exact⟨v,rfl,H.below.below,Z.over (Over.less λb Q=>Or.inl Q) _ _⟩
theorem zhz{P:Program}{f:Nat}{ds:List D}{s:Sym}{k T sz nx:Nat}{rows:List (List D)}{mv:List Nat}{x y:D}(h:zbl P f (ds.map .d) [] 0 s nx [(k,.arr T sz rows)] mv)(H:thaw k (.sl rows) s = .tup [.d x,.d y]):zan P f ds (.tup [x,y]):=
 zg5 h λw E β v hv=>by
  rw[H] at hv;simp only[Sm,Sms] at hv;simp only[R,za9];simpa using hv
theorem znp{P:Program}{f:Nat}{ds:List D}{s:Sym}{k T sz nx:Nat}{rows:List (List D)}{mv:List Nat}{r:D}(h:zbl P f (ds.map .d) [] 0 s nx [(k,.arr T sz rows)] mv)(H:thaw k (.sl rows) s = .d r):zan P f ds r:=
 zg5 h λw E β v hv=>by
  rw[H] at hv;simpa only [Sm] using hv
def zll(d:Dc)(m:Int):List Int:=m::zin (colN d.notes d.tiers.length m)
def yl0(d:Dc)(w:Int):List Int:=(znd d w 3).flatMap (zll d)
def yed(d:Dc)(w:Int)(n:Nt):Bool:=decide (n.id∈yl0 d w)
def zbf(d:Dc)(w:Int):List Nt:=d.notes.filter λn=>!yed d w n
def zfr(d:Dc)(w:Int):Dc:={d with notes:=zbf d w}
theorem zx4{d:Dc}(h:Rgt d){w r m:Int}(H:m∈znd d w r):∃ n∈d.notes,n.id=m/\n.tier=zcr d.tiers r/\n.par=w:=by
 unfold znd zd5 zz8 at H
 obtain⟨n,G,rfl⟩:=List.mem_map.1 H
 have G:=List.mem_filter.1 ((zo5 _).mem_iff.1 G)
 have F:=G.2
 unfold kidB at F
 simp only[Bool.and_eq_true,decide_eq_true_eq] at F
 exact⟨n,G.1,rfl,F.1.1.1,F.1.1.2⟩
structure ClearOk(d:Dc)(w:Int):Prop where
 few:(d.notes.filter (kidB d w (zcr d.tiers 3))).length<20
 col:∀ m∈znd d w 3,(colN d.notes d.tiers.length m).length<=15
theorem yee{d:Dc}{w:Int}(h:ClearOk d w):(znd d w 3).length<20:=by
 unfold znd zd5 zz8
 rw[List.length_map,(zo5 _).length_eq]
 exact h.few
theorem yef{d:Dc}{w:Int}(h:ClearOk d w){m:Int}(H:m∈znd d w 3):(zll d m).length<=16:=by
 unfold zll
 rw[List.length_cons,zj0]
 have:=h.col m H
 omega
theorem z8g{d:Dc}{w:Int}(h:ClearOk d w):∀ l:List Int,(∀ m∈l,m∈znd d w 3)->(l.flatMap (zll d)).length<=16*l.length
 | [],_=>Nat.le_refl _
 |m::l,H=>by
  have G:=yef h (H m List.mem_cons_self);have h2:=z8g h l λm F=>H m (List.mem_cons_of_mem _ F)
  simp only[List.flatMap_cons,List.length_append,List.length_cons];omega
abbrev yeg(l:List Int):List (List D):=l.map λn=>[int n]
theorem yaq{d:Dc}(H:d.notes.length<2^40)(G:d.tiers.length<2^40)(w:Int)(F:zep d=false):zan Tryz.prog 22 [docD d,int w] (.tup [docD ⟨0,.empty,0,0,[],[],[]⟩,int 14]):=by
 refine zab mixed Tryz.func22 rfl c_22 ?_
 have E:=zxr d (by omega)
 rw[F] at E
 simp+decide[Tryz.f22,docD,Dc.row,int]
 refine zai.pure (by rfl) E (λ_=>rfl) ?_
 simp+decide[int]
 exact⟨rfl,rfl,rfl⟩
theorem yar{d:Dc}(H:d.notes.length<2^40)(G:d.tiers.length<2^40)(w:Int)(F:zep d=true)(E:zc1 d w=false):zan Tryz.prog 22 [docD d,int w] (.tup [docD ⟨0,.empty,0,0,[],[],[]⟩,int 9]):=by
 refine zab mixed Tryz.func22 rfl c_22 ?_
 have K:=zxr d (by omega)
 have J:=z7v d w (by omega) (by omega)
 rw[F] at K
 rw[E] at J
 simp+decide[Tryz.f22,docD,Dc.row,int]
 refine zai.pure (by rfl) K (λ_=>rfl) ?_
 simp+decide[int]
 refine zai.pure (by rfl) J (λ_=>rfl) ?_
 simp+decide[Nt.row,int]
 exact⟨rfl,rfl,rfl⟩
abbrev zeroCells:List Sym:=[.d (int 0),.d (.str ⟨#[]⟩),.d (int 0),.d (int 0),.nils,.nils,.nils]
def cSt(d:Dc)(w:Int)(ks:List Int)(x:Nat×List Int):St:=
 {n:=67,next:=4,slots:=[(1,.d (int w)),(2,.bp 0 0),(4,.bp 1 0),(8,.ar 3),(32,.d (ints ks)),(33,.d (int ks.length)),(34,.d (int x.1))],own:=[(0,.box 53 (zbd d)),(1,.box 53 zeroCells),(3,.arr 3 1 (yeg x.2))],moved:=[3]}
def cSt9(d:Dc)(w:Int)(ks:List Int)(k:Nat)(G:List Int)(m:Int):St:=
 {cSt d w ks (k,G) with slots:=(10,.d (int m))::(cSt d w ks (k,G)).slots}
theorem z0r{d:Dc}(h:Rgt d)(w:Int)(hr:zep d=true)(hw:zc1 d w=true)(hc:ClearOk d w):
  zbl Tryz.prog 22 [.d (docD d),.d (int w)] [] 0 (.tup [.agg [.d (int d.id),.d (.str d.name),.d (int d.len),.d (int d.day),.d (ints d.spk),.d (zad d.tiers),.ar 4],.d (int 0)]) 6 [(4,.arr 72 7 ((zbf d w).map Nt.row))] [3,4]:=by
 have Q:=h.few
 have T:=zqf h
 have M:=zxr d (by omega)
 have hg:=z7v d w (by omega) (by omega)
 have V:=znc d (by omega)
 have hk:=ydm d w (zcr d.tiers 3) (by omega) hc.few
 have Y:=yee hc
 rw[show zd5 (zz8 d w (zcr d.tiers 3))=znd d w 3 from rfl] at hk
 rw[hr] at M
 rw[hw] at hg
 refine za6 mixed Tryz.func22 rfl c_22 (by simp[Sym.los,Sym.lo]) ?_
 simp+decide[Tryz.f22,docD,Dc.row,int]
 refine zai.pure (by rfl) M (λ_=>rfl) ?_
 simp+decide[int]
 refine zai.pure (by rfl) hg (λ_=>rfl) ?_
 simp+decide[Nt.row,int]
 refine zaa (by rfl) (by rfl) V (by simp[D.scalar]) ?_
 simp+decide[zim,int]
 refine z6j (by rfl) (by rfl) hk ?_
 have hU:∀ m∈znd d w 3,zan Tryz.prog 59 [docD d,int m] (ints (zin (colN d.notes d.tiers.length m))):=by
  intro m hm;obtain⟨n,hn,e,_⟩:=zx4 h hm;have:=(h.nok n hn).t0
  have:=hc.col m hm
  rw[<-e] at this ⊢;exact yii d h (by omega) n hn _ (by omega) this
 have K:=λl hl=>z8g hc l hl
 have J:zbf d w=d.notes.filter λn=>!decide (n.id∈(znd d w 3).flatMap (zll d)):=rfl
 generalize zbf d w=C at J ⊢
 generalize znd d w 3=ks at Y hU K J
 simp+decide[int,ints]
 refine zax mixed (λk:Nat=>cSt d w ks (k,(ks.take k).flatMap (zll d))) (λk=>k<=ks.length) (λk=>ks.length-k) 0 (Nat.zero_le _) ?_ ?_
 .simp+decide[cSt,int,ints]
 intro k hk
 by_cases H:k<ks.length
 case neg=>
  have:k=ks.length:=by omega
  subst this;rw[List.take_length];refine zas mixed ?_
  have Z:=K ks λm hm=>hm
  generalize ks.flatMap (zll d)=G at Z J;subst J;simp+decide[cSt,int,zak];refine zax mixed (λk:Nat=>{n:=67,next:=5,slots:=[(2,.bp 0 0),(4,.bp 1 0),(8,.ar 3),(11,.ar 4),(48,.d (zak d.notes)),(49,.d (int d.notes.length)),(50,.d (int k))],own:=[(0,.box 53 (zbd d)),(1,.box 53 zeroCells),(3,.arr 3 1 (yeg G)),(4,.arr 72 7 (((d.notes.take k).filter λn=>!decide (n.id∈G)).map Nt.row))],moved:=[3,4]})
   (λk=>k<=d.notes.length) (λk=>d.notes.length-k) 0 (Nat.zero_le _) ?_ ?_
  .simp+decide[int,zak]
  intro k hk;refine zas mixed ?_
  by_cases H:k<d.notes.length
  case neg=>
   have:k=d.notes.length:=by omega
   subst this;rw[List.take_length];simp+decide[int,zak];exact rfl
  have E:(k:Int)<d.notes.length:=by omega
  obtain⟨n,en⟩:∃ n,d.notes[k]=n:=⟨_,rfl⟩;have e1:d.notes[k]?=some n:=by rw[List.getElem?_eq_getElem H,en]
  have hH:=z0q G n.id (by omega)
  have hsn:(d.notes.take (k+1)).filter (λn=>!decide (n.id∈G))=(d.notes.take k).filter (λn=>!decide (n.id∈G))++(if n.id∈G then [] else [n]):=by
   rw[List.take_succ_eq_append_getElem H,List.filter_append,en];by_cases e:n.id∈G <;> simp[e]
  have A:((d.notes.take k).filter λn=>!decide (n.id∈G)).length<=k:=Nat.le_trans (List.length_filter_le _ _) (by rw[List.length_take];exact Nat.min_le_left _ _)
  generalize (d.notes.take k).filter (λn=>!decide (n.id∈G))=F at hsn A
  simp+decide[int,zak,Nt.row,H,E,en,e1,I64];refine zai.pure (by rfl) hH (by simp[D.scalar]) ?_
  by_cases hg:n.id∈G
  .rw[if_pos hg,List.append_nil] at hsn
   simp+decide[int,Nt.row,I64,hg];exact⟨⟨by omega,by omega⟩,k+1,H,by omega,by omega,by rw[hsn]⟩
  .rw[if_neg hg] at hsn
   simp+decide[int,Nt.row,I64,hg,maxLen];exact⟨by omega,by omega,⟨by omega,by omega⟩,k+1,H,by omega,by omega,by rw[hsn];simp[Nt.row,int]⟩
 have E:(k:Int)<ks.length:=by omega
 obtain⟨m,em⟩:∃ m,ks[k]=m:=⟨_,rfl⟩
 have em1:ks[k]?=some m:=by rw[List.getElem?_eq_getElem H,em]
 have O:m∈ks:=by rw[<-em];exact List.getElem_mem H
 have hsn:(ks.take (k+1)).flatMap (zll d)=(ks.take k).flatMap (zll d)++zll d m:=by
  rw[List.take_succ_eq_append_getElem H,List.flatMap_append,em];simp
 have B:((ks.take k).flatMap (zll d)).length<=16*20:=by
  have:=K (ks.take k) λm hm=>List.mem_of_mem_take hm
  rw[List.length_take] at this;omega
 have L:=K [m] (by simpa using O)
 simp only[List.flatMap_cons,List.flatMap_nil,List.append_nil,List.length_cons,List.length_nil] at L
 have I:=hU m O
 generalize (ks.take k).flatMap (zll d)=G at hsn B
 refine zl5 mixed 2 (cSt d w ks (k,G)) rfl ?_ ?_
 .simp+decide[zij,cSt,int,ints,H,E]
 simp only[zik]
 refine zp1 (cSt d w ks (k,G++zll d m)) ?_ ?_
 .refine zfx (zp1 (cSt9 d w ks k G m) ?_ ?_)
  .refine zas mixed ?_
   simp+decide[cSt,cSt9,int,ints,H,E,em,em1]
  .obtain⟨S,hS⟩:∃ S:St,S = {cSt9 d w ks k G m with slots:=(38,.ar 3)::(39,.d (int m))::(40,.d (.sl [[int m]]))::(42,.d (docD d))::(43,.d (int m))::(cSt9 d w ks k G m).slots}:=⟨_,rfl⟩
   refine zp4 mixed 6 3 S ((S.renew 3 (.arr 3 1 (yeg (G++[m])))).put (some 41) (.ar 3)) 41 (.ar 3) (za2 3) (λst=>(st.renew 3 (.arr 3 1 (yeg (G++[m])))).put (some 41) (.ar 3)) _ (by rfl) (by rfl) (by rfl) (by rfl) (by rfl) rfl rfl rfl ?_ (zw6 S 3 41 _) ?_ ?_ ?_
   .intro X w0 β a w hm
    subst hS;refine⟨rfl,rfl,rfl,rfl,rfl,λt s hs hj hL=>?_⟩
    simp only[zac] at hs;split at hs
    .rename_i e;exact(hL 0 _ (by omega) rfl (congrArg some e)).elim
    split at hs
    .rename_i e;exact(hL 1 _ (by omega) rfl (congrArg some e)).elim
    split at hs
    .rename_i e;exact(hL 2 _ (by omega) rfl (congrArg some e)).elim
    split at hs
    .rename_i e;exact(hL 4 _ (by omega) rfl (congrArg some e)).elim
    split at hs
    .rename_i e;exact(hL 5 _ (by omega) rfl (congrArg some e)).elim
    exact hs
   .intro i o hi H2 ho
    have:i=0\/i=1\/i=2\/i=4\/i=5:=by omega
    rcases this with rfl | rfl | rfl | rfl | rfl <;> simp only[List.getElem?_cons_zero,List.getElem?_cons_succ,Option.some.injEq] at ho <;> subst ho
    .refine zbi (s:=.ar 3) rfl rfl (by subst hS;simp[cSt9,cSt]) (by subst hS;simp[Sym.lo,cSt9,cSt]) ⟨by rfl,?_⟩ (by subst hS;simp[zac]) (.inl ⟨5,by rfl⟩)
     subst hS;simp+decide[cSt9,cSt,zac,St.val]
    .refine zbi (s:=.d (int m)) rfl rfl (by subst hS;simp[cSt9,cSt]) (by subst hS;simp[Sym.lo,cSt9,cSt]) ⟨by rfl,?_⟩ (by subst hS;simp[zac]) (.inl ⟨5,by rfl⟩)
     subst hS;simp+decide[cSt9,cSt,zac,St.val]
    .refine zbi (s:=.d (.sl [[int m]])) rfl rfl (by subst hS;simp[cSt9,cSt]) (by subst hS;simp[Sym.lo,cSt9,cSt]) ⟨by rfl,?_⟩ (by subst hS;simp[zac]) (.inl ⟨5,by rfl⟩)
     subst hS;simp+decide[cSt9,cSt,zac,St.val,int]
    .refine zbi (s:=.d (docD d)) rfl rfl (by subst hS;simp[cSt9,cSt]) (by subst hS;simp[Sym.lo,cSt9,cSt]) ⟨by rfl,?_⟩ (by subst hS;simp[zac]) (.inr ⟨by subst hS;simp[St.put,St.renew,cSt9,cSt],by subst hS;simp[St.put,St.renew,Sym.lo,cSt9,cSt],⟨by rfl,?_⟩,by subst hS;simp[zac,St.put,St.renew,zav,za2,cSt9,cSt]⟩)
     .subst hS;simp+decide[cSt9,cSt,zac,St.val,St.look,docD,Dc.row]
     .subst hS;simp+decide[cSt9,cSt,zac,St.val,St.look,St.put,St.renew,zbz,zb5,zby,za2,zav,docD,Dc.row]
    .refine zbi (s:=.d (int m)) rfl rfl (by subst hS;simp[cSt9,cSt]) (by subst hS;simp[Sym.lo,cSt9,cSt]) ⟨by rfl,?_⟩ (by subst hS;simp[zac]) (.inr ⟨by subst hS;simp[St.put,St.renew,cSt9,cSt],by subst hS;simp[St.put,St.renew,Sym.lo,cSt9,cSt],⟨by rfl,?_⟩,by subst hS;simp[zac,St.put,St.renew,zav,za2,cSt9,cSt]⟩)
     .subst hS;simp+decide[cSt9,cSt,zac,St.val,St.look]
     .subst hS;simp+decide[cSt9,cSt,zac,St.val,St.look,St.put,St.renew,za2,zav]
   .intro X w0 L' st hN hk β a w hm
    have N:zac st.slots 38=some (.ar 3):=hk 38 (by simp[tmpsOf,Op.operands,Call.operands]) (.ar 3) (by subst hS;simp[zac]) (by simp)
    have P:zac st.slots 40=some (.d (.sl [[int m]])):=hk 40 (by simp[tmpsOf,Op.operands,Call.operands]) (.d (.sl [[int m]])) (by subst hS;simp[zac]) (by simp)
    have W:zac st.own 3=some (.arr 3 1 (yeg G)):=by rw[hN.own];subst hS;simp[cSt9,cSt,zac]
    have H0:st.n=67:=by rw[hN.n];subst hS;rfl
    refine zc4 hm ?_
    simp+decide[dop,H0,N,P,W,int,maxLen];exact⟨by omega,by omega,rfl⟩
   .refine zi5 (by simp) rfl (λi h1 h2=>?_) ?_
    .have:i=7\/i=8:=by simp at h2;omega
     rcases this with rfl | rfl <;> rfl
    subst hS;simp+decide[cSt9,cSt,int];refine zai.pure (by rfl) I (by simp[docD,Dc.row]) ?_
    have H1:zll d m=m::zin (colN d.notes d.tiers.length m):=rfl
    rw[H1] at L ⊢;rw[List.length_cons] at L;generalize zin (colN d.notes d.tiers.length m)=R at *;simp+decide[cSt9,cSt,int,ints,maxLen];exact⟨by omega,by omega⟩
 .refine zas mixed ?_
  simp+decide[cSt,int,ints,I64];exact⟨⟨by omega,by omega⟩,k+1,H,by omega,by omega,by rw[hsn];simp[int]⟩
theorem yiw{d:Dc}(h:Rgt d)(w:Int)(H:zep d=true)(G:zc1 d w=true)(F:ClearOk d w):
  zan Tryz.prog 22 [docD d,int w] (.tup [docD (zfr d w),int 0]):=
 zhz (ds:=[docD d,int w]) (z0r h w H G F) (by simp[thaw,zfa,zj6,docD,Dc.row,zfr,zak])
theorem zls{P:Program}{c:Code}{Q:DE->St->Prop}{st:St}{id T:Nat}(e sz:Nat){pre post:List Sym}(h:st.look id=some (.box T (pre ++ .nils::post)))(L:Triple P c Q {st.new (.arr e sz []) with own:=aset id (.box T (pre ++ .ar st.next::post)) (st.new (.arr e sz [])).own}):Triple P c Q st:=by
 intro X w0 β a w M
 refine L X w0 (λi=>if i=st.next then .slice none 0 0 else β i) a w ?_
 have G:=M.z1l e sz
 obtain⟨hid,J,b,vs,O,V,Y,hs,Z⟩:=M.obj h
 have F:¬st.next=id:=by omega
 have K:¬id=st.next:=by omega
 have A:(st.new (.arr e sz [])).look id=some (.box T (pre ++ .nils::post)):=by simp only[St.look,St.new,zac,if_neg F];exact h
 have H:=(G.obj A).2.1
 obtain⟨b2,vs2,g1,gN,gh,gs,go⟩:=(G.obj A).2.2
 have lo2:∀ (l m:List Sym) (n:Nat),Sym.los n (l ++ .nils::m)->∀ s,Sym.lo n s->Sym.los n (l++s::m):=by
  intro l;induction l with
  |nil=>intro m n h s hs;simp only[List.nil_append,Sym.los] at h ⊢;exact⟨hs,h.2⟩
  |cons a l ih=>intro m n h s hs;simp only[List.cons_append,Sym.los] at h ⊢;exact⟨h.1,ih m n h.2 s hs⟩
 have sm2:∀ (l m:List Sym) (vs:List Value) (E:Nat->Prop) (β':Nat->Value) (i:Nat),β' i = .slice none 0 0->Sms w E β' (l ++ .nils::m) vs->Sms w E β' (l ++ .ar i::m) vs:=by
  intro l;induction l with
  |nil=>
   intro m vs E β' i hi h;simp only[List.nil_append,Sms] at h ⊢;obtain⟨v,r,rfl,O,h2⟩:=h;exact⟨v,r,rfl,by simp only[Sm] at O ⊢;rw[O,hi],h2⟩
  |cons a l ih=>
   intro m vs E β' i hi h;simp only[List.cons_append,Sms] at h ⊢;obtain⟨v,r,rfl,O,h2⟩:=h;exact⟨v,r,rfl,O,ih m r E β' i hi h2⟩
 refine G.update A (b:=b2) (by have e:=congrArg blk g1;exact e) gN (λ_ _=>rfl) rfl rfl rfl rfl (Drw.refl _) ?_ ?_
 .simp only[Obj'.lo] at H ⊢
  exact lo2 _ _ _ H _ (by simp[Sym.lo,St.new])
 .exact⟨b2,vs2,g1,gN,gh,sm2 _ _ _ _ _ _ (by simp) gs,go⟩
def zjc(d:Dc)(w:Int)(c:Nt):Bool:=decide (c.tier=zcr d.tiers 3)&&decide (c.par=w)
def zjd(d:Dc)(w:Int)(id:Int):Bool:=(chainE d (getN d.notes id)).any (zjc d w)
theorem yix{d:Dc}(h:Rgt d)(w id:Int):zan Tryz.prog 61 [docD d,int w,int id] (.bool (zjd d w id)):=by
 have O:=h.few
 have Q:=zqf h
 have X:=z4c d h id
 have Y:=zdj d 3 (by omega)
 have T:∀ c∈chainE d (getN d.notes id),c∈d.notes:=by
  intro c Z;unfold chainE at Z;split at Z
  .rename_i A;exact zrx h (zf3 A).1 Z
  .cases Z
 have V:(chainE d (getN d.notes id)).length<=21:=by
  unfold chainE;split
  .rename_i A
   have B:=(zf3 A).1;have:=(zjz h _ _ B (Nat.le_refl _)).2
   have:=(h.nok _ B).t1
   have:=(h.nok _ B).t0
   omega
  .simp
 unfold zjd
 generalize chainE d (getN d.notes id)=CH at *
 refine zab mixed Tryz.func61 rfl c_61 ?_
 simp+decide[Tryz.f61,docD,Dc.row,int]
 refine zai.pure (by rfl) X (by simp[docD,Dc.row]) ?_
 simp+decide[int]
 refine zax mixed (λk:Nat=>{n:=40,next:=1,slots:=[(1,.d (int w)),(3,.bp 0 0),(7,.d (ints (zd5 CH))),(8,.d (int k))],own:=[(0,.box 53 (zbd d))]})
  (λk=>k<=CH.length/\(CH.take k).any (zjc d w)=false) (λk=>CH.length-k) 0 ⟨Nat.zero_le _,by simp⟩ ?_ ?_
 .simp+decide[int,ints]
 rintro k ⟨C,I⟩
 refine zas mixed ?_
 have E:(zd5 CH).length=CH.length:=by simp[zd5]
 by_cases H:k<CH.length
 case neg=>
  have:k=CH.length:=by omega
  subst this;rw[List.take_length] at I;rw[I];simp+decide[int,ints,E]
 have G:(k:Int)<CH.length:=by omega
 obtain⟨c,ec⟩:∃ c,CH[k]=c:=⟨_,rfl⟩
 have M:=T CH[k] (List.getElem_mem H)
 rw[ec] at M
 have K:(zd5 CH)[k]?=some c.id:=by simp[zd5,List.getElem?_eq_getElem H,ec]
 have F:k<(zd5 CH).length:=by omega
 have J:(zd5 CH)[k]=c.id:=Option.some.inj (by rw[<-List.getElem?_eq_getElem F];exact K)
 have N:=zc0 d c.id (by omega)
 rw[zjx h M] at N
 simp+decide[int,ints,E,H,G,I64]
 refine yg2 mixed 12 [] (by rfl) (by rfl) (by rfl) (by rfl) ?_
 simp+decide[int,ints,E,H,G,F,J,I64]
 refine zaa (by rfl) (by rfl) N (by simp[docD,Dc.row]) ?_
 simp+decide[getD',Nt.row,int,I64]
 refine⟨by rfl,?_⟩
 have hsn:(CH.take (k+1)).any (zjc d w)=zjc d w c:=by
  rw[List.take_succ_eq_append_getElem H,List.any_append,I,ec];simp
 have L:zjc d w c=true->CH.any (zjc d w)=true:=λe=>List.any_eq_true.2 ⟨c,by rw[<-ec];exact List.getElem_mem H,e⟩
 refine zaa (by rfl) (by rfl) Y (by simp[D.scalar]) ?_
 by_cases c1:c.tier=zcr d.tiers 3
 .by_cases c2:c.par=w
  .rw[L (by simp[zjc,c1,c2])]
   simp+decide[int,ints,c1,c2,I64]
  .have A:zjc d w c=false:=by simp[zjc,c2]
   rw[A] at hsn;simp+decide[int,ints,c1,c2,I64];exact⟨⟨by omega,by omega⟩,k+1,⟨H,λx P=>by have:=List.any_eq_false.1 hsn x P;simpa using this⟩,by omega,by omega⟩
 .have A:zjc d w c=false:=by simp[zjc,c1]
  rw[A] at hsn;simp+decide[int,ints,c1,I64];exact⟨⟨by omega,by omega⟩,k+1,⟨H,λx P=>by have:=List.any_eq_false.1 hsn x P;simpa using this⟩,by omega,by omega⟩
def zj1(d:Dc)(w:Int):List Nt:=d.notes.filter λn=>!zjd d w n.id
theorem zx5{d:Dc}(H:d.notes.length<2^40)(G:d.tiers.length<2^40)(w:Int)(F:zep d=false):zan Tryz.prog 23 [docD d,int w] (.tup [docD ⟨0,.empty,0,0,[],[],[]⟩,int 14]):=by
 refine zab mixed Tryz.func23 rfl c_23 ?_
 have E:=zmf d (by omega)
 rw[F] at E
 simp+decide[Tryz.f23,docD,Dc.row,int]
 refine zai.pure (by rfl) E (λ_=>rfl) ?_
 simp+decide[int]
 exact⟨rfl,rfl,rfl⟩
theorem zx6{d:Dc}(H:d.notes.length<2^40)(G:d.tiers.length<2^40)(w:Int)(F:zep d=true)(E:zc1 d w=false):zan Tryz.prog 23 [docD d,int w] (.tup [docD ⟨0,.empty,0,0,[],[],[]⟩,int 9]):=by
 refine zab mixed Tryz.func23 rfl c_23 ?_
 have K:=zmf d (by omega)
 have J:=zqe d w (by omega) (by omega)
 rw[F] at K
 rw[E] at J
 simp+decide[Tryz.f23,docD,Dc.row,int]
 refine zai.pure (by rfl) K (λ_=>rfl) ?_
 simp+decide[int]
 refine zai.pure (by rfl) J (λ_=>rfl) ?_
 simp+decide[int]
 exact⟨rfl,rfl,rfl⟩
theorem z0s{d:Dc}(h:Rgt d)(w:Int)(M:zep d=true)(O:zc1 d w=true):
  zbl Tryz.prog 23 [.d (docD d),.d (int w)] [] 0 (.tup [.agg [.d (int d.id),.d (.str d.name),.d (int d.len),.d (int d.day),.d (ints d.spk),.d (zad d.tiers),.ar 3],.d (int 0)]) 6 [(3,.arr 72 7 ((zj1 d w).map Nt.row))] [3]:=by
 have K:=h.few
 have J:=zqf h
 have E:=zmf d (by omega)
 have Q:=zqe d w (by omega) (by omega)
 rw[M] at E
 rw[O] at Q
 refine za6 mixed Tryz.func23 rfl c_23 (by simp[Sym.los,Sym.lo]) ?_
 simp+decide[Tryz.f23,docD,Dc.row,int]
 refine zai.pure (by rfl) E (λ_=>rfl) ?_
 simp+decide[int]
 refine zai.pure (by rfl) Q (λ_=>rfl) ?_
 simp+decide[int,zad]
 refine zls (id:=2) (T:=53) 72 7 (pre:=[.d (int d.id),.d (.str d.name),.d (int d.len),.d (int d.day),.d (ints d.spk),.d (zad d.tiers)]) (post:=[]) rfl ?_
 unfold zj1
 refine zax mixed (λk:Nat=>{n:=50,next:=4,slots:=[(1,.d (int w)),(2,.bp 0 0),(4,.bp 1 0),(6,.bp 2 0),(7,.d (int k))],own:=[(0,.box 53 (zbd d)),(1,.box 53 zeroCells),(2,.box 53 [.d (int d.id),.d (.str d.name),.d (int d.len),.d (int d.day),.d (ints d.spk),.d (zad d.tiers),.ar 3]),(3,.arr 72 7 (((d.notes.take k).filter λn=>!zjd d w n.id).map Nt.row))],moved:=[3]})
  (λk=>k<=d.notes.length) (λk=>d.notes.length-k) 0 (Nat.zero_le _) ?_ ?_
 .simp+decide[int,zad]
 intro k V
 refine zas mixed ?_
 by_cases H:k<d.notes.length
 case neg=>
  have:k=d.notes.length:=by omega
  subst this;rw[List.take_length];simp+decide[int,zak];exact rfl
 have G:(k:Int)<d.notes.length:=by omega
 obtain⟨n,en⟩:∃ n,d.notes[k]=n:=⟨_,rfl⟩
 have e1:d.notes[k]?=some n:=by rw[List.getElem?_eq_getElem H,en]
 have X:=yix h w n.id
 have hsn:(d.notes.take (k+1)).filter (λn=>!zjd d w n.id)=(d.notes.take k).filter (λn=>!zjd d w n.id)++(if zjd d w n.id=true then [] else [n]):=by
  rw[List.take_succ_eq_append_getElem H,List.filter_append,en];by_cases e:zjd d w n.id=true <;> simp[e]
 have L:((d.notes.take k).filter λn=>!zjd d w n.id).length<=k:=Nat.le_trans (List.length_filter_le _ _) (by rw[List.length_take];exact Nat.min_le_left _ _)
 generalize Y:(d.notes.take k).filter (λn=>!zjd d w n.id)=F at hsn L
 simp+decide[int,zak,Nt.row,H,G,en,e1,I64]
 refine zaa (by rfl) (by rfl) X (by simp[D.scalar]) ?_
 by_cases Q:zjd d w n.id=true
 .rw[if_pos Q,List.append_nil] at hsn
  rw[Q];simp+decide[int,Nt.row,I64];exact⟨⟨by omega,by omega⟩,k+1,H,by omega,by omega,by rw[hsn]⟩
 .rw[if_neg Q] at hsn
  rw[Bool.not_eq_true] at Q;rw[Q];simp+decide[int,Nt.row,I64,maxLen];refine zjj mixed 8 (by rfl) (by rfl) (by rfl) (by rfl) (by simp) ?_
  simp+decide[int,zak,Nt.row,H,G,en,e1,I64,maxLen];exact⟨by omega,by omega,⟨by omega,by omega⟩,k+1,H,by omega,by omega,by rw[hsn];simp[Nt.row,int]⟩
theorem z4k{d:Dc}(h:Rgt d)(w:Int)(H:zep d=true)(G:zc1 d w=true):
  zan Tryz.prog 23 [docD d,int w] (.tup [docD {d with notes:=zj1 d w},int 0]):=
 zhz (ds:=[docD d,int w]) (z0s h w H G) (by simp[thaw,zfa,zj6,docD,Dc.row,zak])
theorem zvb{a b:Dc}:a=b↔a.id=b.id/\a.name=b.name/\a.len=b.len/\a.day=b.day/\a.spk=b.spk/\a.tiers=b.tiers/\a.notes=b.notes:=by cases a;cases b;simp
abbrev z8h(d:Dc):List Sym:=[.d (int d.id),.d (.str d.name),.d (int d.len),.d (int d.day),.d (ints d.spk)]
theorem yas(a b:Dc)(F:b.fit):zan Tryz.prog 24 [docD a,docD b] (.bool (decide (a=b))):=by
 obtain⟨f1,f2,f3⟩:=F
 refine zab mixed Tryz.func24 rfl c_24 ?_
 simp+decide[Tryz.f24,docD,Dc.row]
 refine yoy mixed (zxi z3q) ym8 [2,3,4,5,6] (st':={n:=99,next:=4,slots:=[(2,.bp 0 0),(3,.bp 1 0),(4,.d (.bool false)),(5,.bp 2 0),(6,.bp 3 0)],own:=[(2,.box 49 (z8h a)),(3,.box 49 (z8h b)),(1,.box 53 (zbd b)),(0,.box 53 (zbd a))]}) (by kernel_rfl) ?_
 by_cases E:a.id=b.id
 case neg=>simp+decide[int,E,zvb]
 by_cases K:a.name=b.name
 case neg=>simp+decide[int,E,K,zvb]
 by_cases J:a.len=b.len
 case neg=>simp+decide[int,E,K,J,zvb]
 by_cases L:a.day=b.day
 case neg=>simp+decide[int,E,K,J,L,zvb]
 simp+decide[int,E,K,J,L]
 refine zai.pure (by rfl) (yli a.spk b.spk (by omega)) (by simp) ?_
 by_cases M:a.spk=b.spk
 case neg=>simp+decide[M,zvb]
 by_cases l2:a.tiers.length=b.tiers.length
 case neg=>
  have:¬a.tiers=b.tiers:=λe=>l2 (by rw[e])
  have l2':¬(a.tiers.length:Int)=b.tiers.length:=by omega
  simp+decide[M,zvb,this,l2,l2',int,zad,zak]
 by_cases l3:a.notes.length=b.notes.length
 case neg=>
  have:¬a.notes=b.notes:=λe=>l3 (by rw[e])
  have l3':¬(a.notes.length:Int)=b.notes.length:=by omega
  simp+decide[M,zvb,this,l2,l3,l3',int,zad,zak]
 simp+decide[M,l2,l3,int,zad,zak]
 refine zae mixed (λk:Nat=>{n:=99,next:=2,slots:=[(2,.bp 0 0),(3,.bp 1 0),(7,.d (.int .i64 k))],own:=[(0,.box 53 (zbd a)),(1,.box 53 (zbd b))]})
  (λk=>k<=a.tiers.length/\a.tiers.take k=b.tiers.take k) (λk=>a.tiers.length-k) 0 (by simp) (by simp+decide[zad,zak,M,int]) ?_
 intro k ⟨O,Q⟩
 by_cases G:k<a.tiers.length
 .have e1:a.tiers[k]?=some a.tiers[k]:=List.getElem?_eq_getElem G
  have e2:b.tiers[k]?=some (b.tiers[k]'(by omega)):=List.getElem?_eq_getElem (by omega)
  have H:k<b.tiers.length:=by omega
  simp+decide[zad,Tir.row,int,e1,e2,G,H,I64];refine⟨λhne e=>?_,λg1 g2 g3 g4=>⟨by omega,k+1,⟨G,?_⟩,by omega,by omega⟩⟩
  .rw[zvb] at e
   obtain⟨_,_,_,_,_,e,_⟩:=e;simp[e] at hne
  .have T:a.tiers[k]=b.tiers[k]:=by
    rcases V:a.tiers[k] with⟨x1,x2,x3,x4⟩;rcases X:b.tiers[k] with⟨y1,y2,y3,y4⟩;rw[V,X] at g1 g2 g3 g4;simp only at g1 g2 g3 g4
    rw[g1,g2,g3,g4]
   rw[take_snoc' G,take_snoc' H,Q,T]
 .have:k=a.tiers.length:=by omega
  subst this;have Y:a.tiers=b.tiers:=by rw[List.take_length,l2,List.take_length] at Q;exact Q
  simp+decide[zad,zak];refine zae mixed (λk:Nat=>{n:=99,next:=2,slots:=[(2,.bp 0 0),(3,.bp 1 0),(8,.d (.int .i64 k))],own:=[(0,.box 53 (zbd a)),(1,.box 53 (zbd b))]})
   (λk=>k<=a.notes.length/\a.notes.take k=b.notes.take k) (λk=>a.notes.length-k) 0 (by simp) (by simp+decide[zad,zak,M,int]) ?_
  intro k ⟨O,Q⟩;by_cases G:k<a.notes.length
  .have e1:a.notes[k]?=some a.notes[k]:=List.getElem?_eq_getElem G
   have e2:b.notes[k]?=some (b.notes[k]'(by omega)):=List.getElem?_eq_getElem (by omega)
   have H:k<b.notes.length:=by omega
   simp+decide[zak,Nt.row,int,e1,e2,G,H,I64];refine⟨λhne e=>?_,λg1 g2 g3 g4 g5 g6 g7=>⟨by omega,k+1,⟨G,?_⟩,by omega,by omega⟩⟩
   .rw[zvb] at e
    obtain⟨_,_,_,_,_,_,e⟩:=e;simp[e] at hne
   .have T:a.notes[k]=b.notes[k]:=by
     rcases V:a.notes[k] with⟨x1,x2,x3,x4,x5,x6,x7⟩;rcases X:b.notes[k] with⟨y1,y2,y3,y4,y5,y6,y7⟩;rw[V,X] at g1 g2 g3 g4 g5 g6 g7;simp only at g1 g2 g3 g4 g5 g6 g7
     rw[g1,g2,g3,g4,g5,g6,g7]
    rw[take_snoc' G,take_snoc' H,Q,T]
  .have:k=a.notes.length:=by omega
   subst this;have Z:a.notes=b.notes:=by rw[List.take_length,l3,List.take_length] at Q;exact Q
   simp+decide[zak,zvb,M,E,K,J,L,Y,Z]
theorem yeh{d:Dc}(h:Rgt d){w r:Int}{c:Nt}(H:c∈d.notes)(G:c.tier=zcr d.tiers r)(h2:c.par=w):c.id∈znd d w r:=by
 unfold znd zd5 zz8
 refine List.mem_map.2 ⟨c,(zo5 _).mem_iff.2 (List.mem_filter.2 ⟨H,?_⟩),rfl⟩
 have t0:=(h.nok c H).t0
 have t1:=(h.nok c H).t1
 rw[G] at t0 t1
 simp[kidB,G,h2,t0,t1]
theorem z8i{d:Dc}(h:Rgt d){w:Int}{n:Nt}(E:n∈d.notes):n.id∈yl0 d w↔∃ c∈zdg d n,c.tier=zcr d.tiers 3/\c.par=w:=by
 unfold yl0
 rw[List.mem_flatMap]
 constructor
 .rintro⟨m,K,J⟩
  obtain⟨c,L,rfl,q1,q2⟩:=zx4 h K;have t0:=(h.nok c L).t0;refine⟨c,?_,q1,q2⟩
  unfold zll at J;rcases List.mem_cons.1 J with e | J
  .obtain rfl:=znb h E L e
   exact zk2 h E
  .have J:=(zo6 _).mem_iff.1 J
   obtain⟨m',G,e,F⟩:=(zss h d.tiers.length c L (by omega) n.id).1 J
   obtain rfl:=znb h G E e;rw[(za4 h G).1];exact List.mem_cons_of_mem _ F
 .rintro⟨c,L,q1,q2⟩
  have H:=zrx h E L;have t0:=(h.nok c H).t0;refine⟨c.id,yeh h H q1 q2,?_⟩
  unfold zll;rw[(za4 h E).1] at L;rcases List.mem_cons.1 L with rfl | L
  .exact List.mem_cons_self
  .exact List.mem_cons_of_mem _ ((zo6 _).mem_iff.2 ((zss h d.tiers.length c H (by omega) n.id).2 ⟨n,E,rfl,L⟩))
theorem yiy{d:Dc}(h:Rgt d)(w:Int):zj1 d w=zbf d w:=by
 unfold zj1 zbf
 refine List.filter_congr λn H=>?_
 congr 1
 unfold zjd yed
 rw[zjx h H,Bool.eq_iff_iff,List.any_eq_true,decide_eq_true_eq,z8i h H]
 unfold chainE zjc
 simp only[if_true,Bool.and_eq_true,decide_eq_true_eq]
theorem yat{d:Dc}(h:Rgt d)(H:d.notes.length<=15)(w:Int):ClearOk d w where
 few:=by have:=List.length_filter_le (kidB d w (zcr d.tiers 3)) d.notes;omega
 col:=λm G=>by
  obtain⟨n,F,rfl,_⟩:=zx4 h G;have:=(h.nok n F).t0
  have:=ylu h (f:=d.tiers.length) F (by omega)
  omega
def zo8:Dc:=⟨0,.empty,0,0,[],[],[]⟩
def zee(d:Dc)(w:Int):Dc×Int:=if zep d=false then (zo8,14) else if zc1 d w=false then (zo8,9) else (zfr d w,0)
theorem yl1{d:Dc}(h:Rgt d)(w:Int)(H:ClearOk d w):zan Tryz.prog 22 [docD d,int w] (.tup [docD (zee d w).1,int (zee d w).2]):=by
 have:=h.few
 have:=zqf h
 unfold zee
 cases G:zep d with
 |false=>rw[if_pos rfl];exact yaq (by omega) (by omega) w G
 |true=>
  rw[if_neg (by decide)]
  cases F:zc1 d w with
  |false=>rw[if_pos rfl];exact yar (by omega) (by omega) w G F
  |true=>rw[if_neg (by decide)];exact yiw h w G F H
theorem zv4{d:Dc}(h:Rgt d)(w:Int):zan Tryz.prog 23 [docD d,int w] (.tup [docD (zee d w).1,int (zee d w).2]):=by
 have:=h.few
 have:=zqf h
 unfold zee
 cases H:zep d with
 |false=>rw[if_pos rfl];exact zx5 (by omega) (by omega) w H
 |true=>
  rw[if_neg (by decide)]
  cases G:zc1 d w with
  |false=>rw[if_pos rfl];exact zx6 (by omega) (by omega) w H G
  |true=>
   rw[if_neg (by decide)]
   have:=z4k h w H G
   rw[yiy h] at this;exact this
end Go.V.Doc
namespace Go.V.Doc
open Go Go.Proofs Go.Sort Go.RowKit
theorem zr1{a b:Nt}:ltId a b=true↔a.id<b.id:=by
 unfold ltId ltOf zxs
 rw[decide_eq_true_eq]
 simp only[cmpI]
 repeat' split
 all_goals omega
theorem swoI:SWO ltId where
 irrefl:=λx=>by rw[<-Bool.not_eq_true,zr1];omega
 trans:=λx y z H h2=>by rw[zr1] at *;omega
 ntrans:=λx y z H h2=>by rw[<-Bool.not_eq_true,zr1] at *;omega
def zgk(l:List Nt):List Nt:=(pdq ltId l.toArray 0 l.length (Lib.bitLen l.length) true true).toList
theorem zmj(l:List Nt):PermIn 0 l.length l.toArray (pdq ltId l.toArray 0 l.length (Lib.bitLen l.length) true true)/\SortedIn ltId 0 l.length (pdq ltId l.toArray 0 l.length (Lib.bitLen l.length) true true):=
 pdq_sorts ltId swoI l.toArray 0 l.length (Lib.bitLen l.length) true true (Nat.zero_le _) (by simp) (Or.inl rfl)
theorem zio(l:List Nt):(zgk l).length=l.length:=by
 have:=(zmj l).1.1
 unfold zgk
 rw[Array.length_toList,this];simp
theorem zs5(l:List Nt):(zgk l).Perm l:=by
 obtain⟨H,_,G⟩:=(zmj l).1
 unfold zgk
 generalize pdq ltId l.toArray 0 l.length (Lib.bitLen l.length) true true=A at H G
 have e1:A.extract 0 l.length=A:=by rw[show l.length=A.size by rw[H];simp];simp
 have e2:l.toArray.extract 0 l.length=l.toArray:=by rw[show l.length=l.toArray.size by simp];simp
 rw[e1,e2] at G
 simpa using G
theorem zx7(l:List Nt):(zgk l).Pairwise λa b=>¬b.id<a.id:=by
 have hs:=(zmj l).2
 have G:=zio l
 unfold zgk at G ⊢
 generalize pdq ltId l.toArray 0 l.length (Lib.bitLen l.length) true true=A at hs G
 rw[List.pairwise_iff_getElem]
 intro i j hi F H
 rw[Array.length_toList] at G
 have:=hs i j (Nat.zero_le _) H (by rw[Array.length_toList] at F;omega)
 rw[Array.length_toList] at hi F
 rw[<-Bool.not_eq_true,zr1] at this
 simpa[getElem!_pos,hi,F] using this
theorem yei(l:List Nt)(F:l≠[])(K:l.length<4611686018427387904):
  zbl Tryz.prog 65 [.ar 0,.fn 66 []] [(0,.arr 72 7 (l.map Nt.row))] 1 (.d (.tup [])) 1 [(0,.arr 72 7 ((zgk l).map Nt.row))] []:=by
 refine zit zjr c_65 F (zio l) ?_
 intro w E β vs G H g cap J L M
 simp only[Sms,Sm,R,int] at G
 obtain⟨_,_,rfl,⟨_,rfl,rfl⟩,rfl⟩:=G
 have:=AnyQ.slices_SortFunc_eq Tryz.yjp 7 yc0 z3r Nt.enc zjr.len zjr.one zxs swoI 66 #[] g 0 cap l.toArray w z0b
  (ydo H L) M J (by simpa using K)
 change Calls Tryz.prog 65 _ _ _ at this
 have e:(pdq (ltOf zxs) l.toArray 0 l.toArray.size (Lib.bitLen l.toArray.size) true true)=(zgk l).toArray:=by
  unfold zgk ltId;simp
 rw[e] at this
 simpa using this
def putN(l:List Nt)(n:Nt):List Nt:=l.takeWhile (λm=>!decide (n.id<m.id))++n::l.dropWhile (λm=>!decide (n.id<m.id))
theorem zh0(l:List Nt)(n:Nt):(putN l n).Perm (n::l):=by
 unfold putN
 refine List.perm_middle.trans ?_
 rw[List.takeWhile_append_dropWhile]
def putK(l:List Nt)(n:Nt)(k:Nat):List Nt×Bool:=if (l.take k).all (λm=>!decide (n.id<m.id))=true then (l.take k,false) else (putN (l.take k) n,true)
theorem zs6{α:Type}{p:α->Bool}:∀ {l:List α},(∀ m∈l,p m=true)->l.takeWhile p=l/\l.dropWhile p=[]
 | [],_=>⟨rfl,rfl⟩
 |a::l,h=>by
  have ih:=zs6 λm H=>h m (List.mem_cons_of_mem _ H)
  have G:=h a List.mem_cons_self;simp only[List.takeWhile_cons,List.dropWhile_cons,if_pos G,ih.1,ih.2,and_self]
theorem z8j{l:List Nt}{n:Nt}(h:l.all (λm=>!decide (n.id<m.id))=true):putN l n=l++[n]:=by
 unfold putN
 rw[(zs6 (List.all_eq_true.1 h)).1,(zs6 (List.all_eq_true.1 h)).2]
theorem yej{l:List Nt}{n m:Nt}(h:l.all (λm=>!decide (n.id<m.id))=false):putN (l++[m]) n=putN l n++[m]:=by
 unfold putN
 induction l with
 |nil=>simp at h
 |cons a l ih=>
  simp only[List.cons_append,List.takeWhile_cons,List.dropWhile_cons];by_cases c:(!decide (n.id<a.id))=true
  .rw[if_pos c,if_pos c,if_pos c,if_pos c]
   rw[List.all_cons,c,Bool.true_and] at h;have:=ih h
   simp only[List.cons_append] at this ⊢;rw[this]
  .rw[if_neg c,if_neg c,if_neg c,if_neg c];simp
theorem yek{l:List Nt}{n m:Nt}{k:Nat}(F:l[k]?=some m):putK l n (k+1)=if (putK l n k).2=false/\n.id<m.id then ((putK l n k).1++[n]++[m],true) else ((putK l n k).1++[m],(putK l n k).2):=by
 have hs:l.take (k+1)=l.take k++[m]:=by rw[List.take_add_one,F];rfl
 unfold putK
 rw[hs,List.all_append]
 by_cases c:(l.take k).all (λm=>!decide (n.id<m.id))=true
 .rw[c]
  by_cases c2:n.id<m.id
  .have G:=z8j c
   have H:putN (l.take k++[m]) n=l.take k++[n]++[m]:=by
    unfold putN;have E:∀ x∈l.take k,(λm:Nt=>!decide (n.id<m.id)) x=true:=List.all_eq_true.1 c
    rw[List.takeWhile_append_of_pos E,List.dropWhile_append_of_pos E];simp[c2]
   simp[c2,H]
  .simp[c2]
 .rw[Bool.not_eq_true] at c
  rw[c];simp[yej c]
end Go.V.Doc
namespace Go.V
open Go Go.Proofs
def zo9(inv:List Phon)(r:Rule)(w:List Int)(k:Nat):Bool:=
 decide (w[k]?.getD 0∈r.src)&&decide (r.left.length<=k)&&decide (k+1+r.right.length<=w.length) && !(r.beg&&decide (r.left.length<k)) && !(r.fin&&decide (k+1+r.right.length<w.length)) &&
  zno inv r.left ((w.take k).drop (k-r.left.length))&&zno inv r.right ((w.take (k+1+r.right.length)).drop (k+1))
structure RuleFit(r:Rule):Prop where
 src:r.src.length<2^40
 left:r.left.length<2^40
 right:r.right.length<2^40
theorem yl2(inv:List Phon)(B:inv.length<2^62)(r:Rule)(C:RuleFit r)(w:List Int)(I:w.length<2^40)(k:Nat)(N:k<w.length):
  zan Tryz.prog 267 [.agg [invD inv],.agg r.row,ints w,int k] (.bool (zo9 inv r w k)):=by
 obtain⟨P,h2,S⟩:=C
 obtain⟨x,ex⟩:∃ x,w[k]=x:=⟨_,rfl⟩
 have e1:w[k]?=some x:=by rw[List.getElem?_eq_getElem N,ex]
 have V:(k:Int)<w.length:=by omega
 have W:=z0q r.src x (by omega)
 obtain⟨R,hR⟩:∃ R,zo9 inv r w k=R:=⟨_,rfl⟩
 rw[hR]
 unfold zo9 at hR
 rw[e1,Option.getD_some] at hR
 refine zab mixed Tryz.func267 rfl c_267 ?_
 obtain⟨src,dst,left,right,beg,fin⟩:=r
 simp only at P h2 S W hR
 simp+decide[Tryz.f267,int,Rule.row,clsD,I64]
 refine⟨by omega,by omega,by omega,?_⟩
 simp+decide[ints,e1,ex,N,V]
 refine zaa (by rfl) (by rfl) W (by simp[int,ints]) ?_
 by_cases hx:x∈src
 case neg=>
  have:R=false:=by rw[<-hR];simp[hx]
  subst this;simp+decide[int,hx]
 by_cases hf:left.length<=k
 case neg=>
  have:R=false:=by rw[<-hR];simp[hf]
  subst this;have H:(k:Int)-left.length<0:=by omega
  simp+decide[int,hx,hf,H]
 have H:¬(k:Int)-left.length<0:=by omega
 by_cases ht:k+1+right.length<=w.length
 case neg=>
  have:R=false:=by rw[<-hR];simp[ht]
  subst this;have G:(w.length:Int)<k+1+right.length:=by omega
  simp+decide[int,hx,hf,H,ht,G]
 have G:¬(w.length:Int)<k+1+right.length:=by omega
 by_cases hb:beg=true/\left.length<k
 case pos=>
  obtain⟨X,M⟩:=hb;subst X;have:R=false:=by rw[<-hR];simp[M]
  subst this;have E:(0:Int)<(k:Int)-left.length:=by omega
  simp+decide[int,hx,hf,H,ht,G,E,M]
 have M:(beg&&decide (left.length<k))=false:=by
  cases beg
  .rfl
  .simp at hb;simp[hb]
 by_cases he:fin=true/\k+1+right.length<w.length
 case pos=>
  obtain⟨Y,J⟩:=he;subst Y;have:R=false:=by rw[<-hR];simp[J]
  subst this;have Q:(k:Int)+1+right.length<w.length:=by omega
  cases beg
  .simp+decide[int,hx,hf,H,ht,G,Q,J]
  .have E:¬(0:Int)<(k:Int)-left.length:=by simp at hb;omega
   simp+decide[int,hx,hf,H,ht,G,Q,J,E]
 have J:(fin&&decide (k+1+right.length<w.length))=false:=by
  cases fin
  .rfl
  .simp at he;simp[he]
 have Z:((w.take k).drop (k-left.length)).length=left.length:=by rw[List.length_drop,List.length_take];omega
 have A:((w.take (k+1+right.length)).drop (k+1)).length=right.length:=by rw[List.length_drop,List.length_take];omega
 have K:=yec inv left _ Z B (by omega)
 have F:=yec inv right _ A B (by omega)
 have eL:∀ a b,ints ((w.take a).drop b) = .sl (((w.map λn=>[D.int .i64 n]).take a).drop b):=λa b=>by simp[ints,List.map_drop,List.map_take]
 rw[eL] at K F
 rw[M,J] at hR
 generalize zno inv left ((w.take k).drop (k-left.length))=b1 at K hR
 generalize zno inv right ((w.take (k+1+right.length)).drop (k+1))=b2 at F hR
 have hR:R=(b1&&b2):=by rw[<-hR];simp[hx,hf,ht]
 subst hR
 have O:beg=true->¬(0:Int)<(k:Int)-left.length:=by
  intro e;subst e;simp at hb;omega
 have L:fin=true->¬(k:Int)+1+right.length<w.length:=by
  intro e;subst e;simp at he;omega
 have ek:((k:Int)+1+right.length).toNat=k+1+right.length:=by omega
 have ek1:((k:Int)+1).toNat=k+1:=by omega
 rw[<-ek] at F
 cases beg with
 |false=>
  cases fin with
  |false=>
   simp+decide[int,hx,hf,H,ht,G];refine⟨⟨by omega,by omega⟩,?_⟩
   refine zaa (by rfl) (by rfl) K (by simp[int,ints]) ?_
   cases b1 with
   |false=>simp+decide[int]
   |true=>
    simp+decide[int,ints,I64];refine⟨⟨by omega,by omega⟩,⟨by omega,by omega,by omega⟩,?_⟩
    refine zaa (by rfl) (by rfl) F (by simp[int,ints]) ?_
    simp+decide[int]
  |true=>
   have:=L rfl
   simp+decide[int,hx,hf,H,ht,G,this];refine⟨⟨by omega,by omega⟩,?_⟩
   refine zaa (by rfl) (by rfl) K (by simp[int,ints]) ?_
   cases b1 with
   |false=>simp+decide[int]
   |true=>
    simp+decide[int,ints,I64];refine⟨⟨by omega,by omega⟩,⟨by omega,by omega,by omega⟩,?_⟩
    refine zaa (by rfl) (by rfl) F (by simp[int,ints]) ?_
    simp+decide[int]
 |true=>
  have E:=O rfl;have T:¬left.length<k:=by omega
  cases fin with
  |false=>
   simp+decide[int,hx,hf,H,ht,G,E,T];refine⟨⟨by omega,by omega⟩,?_⟩
   refine zaa (by rfl) (by rfl) K (by simp[int,ints]) ?_
   cases b1 with
   |false=>simp+decide[int]
   |true=>
    simp+decide[int,ints,I64];refine⟨⟨by omega,by omega⟩,⟨by omega,by omega,by omega⟩,?_⟩
    refine zaa (by rfl) (by rfl) F (by simp[int,ints]) ?_
    simp+decide[int]
  |true=>
   have:=L rfl
   simp+decide[int,hx,hf,H,ht,G,E,T,this];refine⟨⟨by omega,by omega⟩,?_⟩
   refine zaa (by rfl) (by rfl) K (by simp[int,ints]) ?_
   cases b1 with
   |false=>simp+decide[int]
   |true=>
    simp+decide[int,ints,I64];refine⟨⟨by omega,by omega⟩,⟨by omega,by omega,by omega⟩,?_⟩
    refine zaa (by rfl) (by rfl) F (by simp[int,ints]) ?_
    simp+decide[int]
def segE(inv:List Phon)(r:Rule)(w:List Int)(k:Nat)(x:Int):List Int:=
 if zo9 inv r w k=true then (if r.dst[(idxL r.src x).toNat]?.getD 0=0 then [] else [r.dst[(idxL r.src x).toNat]?.getD 0]) else [x]
def zj2(inv:List Phon)(r:Rule)(w:List Int):List Int:=(w.zipIdx.map λx=>segE inv r w x.2 x.1).flatten
theorem z4l{α:Type}{l:List α}{k:Nat}(h:k<l.length):l.zipIdx.take (k+1)=l.zipIdx.take k++[(l[k],k)]:=by
 have H:k<l.zipIdx.length:=by simpa using h
 rw[zao H]
 simp
def zje(inv:List Phon)(r:Rule)(w:List Int)(k:Nat):List Int:=((w.zipIdx.take k).map λx=>segE inv r w x.2 x.1).flatten
theorem zmk{inv:List Phon}{r:Rule}{w:List Int}{k:Nat}(h:k<w.length):zje inv r w (k+1)=zje inv r w k++segE inv r w k w[k]:=by
 unfold zje;rw[z4l h,List.map_append,List.flatten_append];simp
theorem yiz(inv:List Phon)(r:Rule)(w:List Int)(k:Nat)(x:Int):(segE inv r w k x).length<=1:=by
 unfold segE;split
 .split <;> simp
 .simp
theorem zk3(inv:List Phon)(r:Rule)(w:List Int):∀ k,k<=w.length->(zje inv r w k).length<=k
 |0,_=>by simp[zje]
 |k+1,h=>by
  rw[zmk (by omega),List.length_append]
  have H:=zk3 inv r w k (by omega)
  have h2:=yiz inv r w k (w[k]'(by omega))
  omega
theorem zpa(inv:List Phon)(r:Rule)(w:List Int):zje inv r w w.length=zj2 inv r w:=by
 unfold zje zj2
 rw[List.take_of_length_le (by simp)]
structure RuleOk(r:Rule):Prop extends RuleFit r where
 dst:r.dst.length=r.src.length
theorem yi0(inv:List Phon)(Q:inv.length<2^62)(r:Rule)(T:RuleOk r)(w:List Int)(V:w.length<2^40):
  zan Tryz.prog 237 [.agg [invD inv],.agg r.row,ints w] (ints (zj2 inv r w)):=by
 rw[<-zpa]
 refine zab mixed Tryz.func237 rfl c_237 ?_
 simp+decide[Tryz.f237,int,ints,Rule.row]
 refine zae mixed (λk:Nat=>{n:=38,next:=4,slots:=[(2,.d (ints w)),(3,.bp 0 0),(4,.bp 1 0),(7,.ar 3),(10,.d (ints w)),(11,.d (int w.length)),(12,.d (int k))],own:=[(0,.box 24 [.d (invD inv)]),(1,.box 90 (r.row.map .d)),(3,.arr 3 1 ((zje inv r w k).map λn=>[int n]))],moved:=[3]})
  (λk=>k<=w.length) (λk=>w.length-k) 0 (by simp) (by simp+decide[int,ints,Rule.row,zje]) ?_
 intro k X
 by_cases H:k<w.length
 case neg=>
  have:k=w.length:=by omega
  subst this;simp+decide[int,ints]
 have E:(k:Int)<w.length:=by omega
 have hsn:=zmk (inv:=inv) (r:=r) H
 have L:=zk3 inv r w k X
 have Y:=yl2 inv Q r T.toRuleFit w V k H
 obtain⟨x,ex⟩:∃ x,w[k]=x:=⟨_,rfl⟩
 have e1:w[k]?=some x:=by rw[List.getElem?_eq_getElem H,ex]
 rw[ex] at hsn
 have Z:=z8f r.src x (by have:=T.src;omega)
 have G:=zx3 r.src x
 have K:x∈r.src->∃ j:Nat,j<r.src.length/\idxL r.src x=j:=by
  intro A;unfold idxL at G ⊢;cases B:r.src.findIdx? (· = x) with
  |none=>rw[B] at G;exact absurd (G.2 A) (by decide)
  |some j=>
   rw[List.findIdx?_eq_some_iff_getElem] at B;exact⟨j,B.1,rfl⟩
 have F:zo9 inv r w k=true->x∈r.src:=by
  intro h;unfold zo9 at h;simp only[Bool.and_eq_true,decide_eq_true_eq] at h;have:=h.1.1.1.1.1.1
  rwa [e1,Option.getD_some] at this
 have M:=T.dst
 unfold segE at hsn
 simp+decide[int,ints,Rule.row,H,E,e1,ex,I64]
 refine zai.pure (by rfl) Y (by simp) ?_
 cases C:zo9 inv r w k with
 |false=>
  rw[C] at hsn;simp only[Bool.false_eq_true,if_false] at hsn;simp+decide[int,ints,Rule.row,I64];exact⟨by omega,by unfold maxLen;omega,⟨by omega,by omega⟩,k+1,H,by omega,by omega,by rw[hsn];simp⟩
 |true=>
  rw[C] at hsn;simp only[if_true] at hsn;obtain⟨j,I,ej⟩:=K (F C);have J:j<r.dst.length:=by omega
  obtain⟨y,ey⟩:∃ y,r.dst[j]=y:=⟨_,rfl⟩;have e2:r.dst[j]?=some y:=by rw[List.getElem?_eq_getElem J,ey]
  rw[ej,Int.toNat_natCast,e2,Option.getD_some] at hsn;rw[ej] at Z;have O:(j:Int)<r.dst.length:=by omega
  simp+decide[int,ints,Rule.row,I64];refine zaa (by rfl) (by rfl) Z (by simp[int]) ?_
  simp+decide[int,ints,Rule.row,J,O,e2,ey,I64];by_cases N:y=0
  .rw[if_pos N,List.append_nil] at hsn
   simp+decide[int,ints,Rule.row,N,I64];exact⟨⟨by omega,by omega⟩,k+1,H,by omega,by omega,by rw[hsn]⟩
  .rw[if_neg N] at hsn
   simp+decide[int,ints,Rule.row,N,I64];exact⟨by omega,by unfold maxLen;omega,⟨by omega,by omega⟩,k+1,H,by omega,by omega,by rw[hsn];simp⟩
theorem yau(inv:List Phon)(r:Rule)(w:List Int):(zj2 inv r w).length<=w.length:=by
 rw[<-zpa];exact zk3 inv r w _ (Nat.le_refl _)
def zgl(inv:List Phon)(rs:List Rule)(w:List Int):List Int:=rs.foldl (λw r=>zj2 inv r w) w
theorem zh1(inv:List Phon):∀ (rs:List Rule) (w:List Int),(zgl inv rs w).length<=w.length
 | [],w=>Nat.le_refl _
 |r::rs,w=>by
  have H:=zh1 inv rs (zj2 inv r w);have h2:=yau inv r w;unfold zgl at H ⊢;rw[List.foldl_cons];omega
theorem yl3(inv:List Phon)(K:inv.length<2^62)(rs:List Rule)(J:∀ r∈rs,RuleOk r)(L:rs.length<2^40)(w:List Int)(M:w.length<2^40):
  zan Tryz.prog 209 [.agg [invD inv],zco rs,ints w] (ints (zgl inv rs w)):=by
 refine zab mixed Tryz.func209 rfl c_209 ?_
 simp+decide[Tryz.f209,int,ints,zco]
 refine zae mixed (λk:Nat=>{n:=21,next:=2,slots:=[(2,.d (ints (zgl inv (rs.take k) w))),(3,.bp 0 0),(9,.d (zco rs)),(10,.d (int rs.length)),(11,.d (int k))],own:=[(0,.box 24 [.d (invD inv)])]})
  (λk=>k<=rs.length) (λk=>rs.length-k) 0 (by simp) (by simp+decide[int,ints,zco,zgl]) ?_
 intro k O
 by_cases H:k<rs.length
 case neg=>
  have:k=rs.length:=by omega
  subst this;rw[List.take_length];simp+decide[int,ints,zco]
 have G:(k:Int)<rs.length:=by omega
 have hsn:zgl inv (rs.take (k+1)) w=zj2 inv rs[k] (zgl inv (rs.take k) w):=by unfold zgl;rw[zao H,List.foldl_append];rfl
 have E:=zh1 inv (rs.take k) w
 have F:=J rs[k] (List.getElem_mem H)
 obtain⟨r,er⟩:∃ r,rs[k]=r:=⟨_,rfl⟩
 have e1:rs[k]?=some r:=by rw[List.getElem?_eq_getElem H,er]
 rw[er] at hsn F
 generalize zgl inv (rs.take k) w=u at hsn E
 have Q:=yi0 inv K r F u (by omega)
 simp+decide[int,ints,zco,Rule.row,H,G,e1,er,I64]
 refine zai.pure (by rfl) Q (by simp[Rule.row,int]) ?_
 simp+decide[int,ints,zco,Rule.row,I64]
 exact⟨⟨by omega,by omega⟩,k+1,H,by omega,by rw[hsn],by omega⟩
structure LangOk(g:Lang):Prop where
 lex:LexFit g.lex
 inv:g.inv.length<2^40
 rules:(∀ r∈g.rules,RuleOk r)/\g.rules.length<2^40
 net:yly g.net
def zrm(l:List Ent)(p:Prt):Int:=
 if (getE l p.entry).2=false then 9 else if (zhg l p).2.2=false then 2 else if p.sense<0\/(zec l p.entry).length<=p.sense then 22 else 0
def zgm(l:List Ent):List Prt->Int
 | []=>0
 |p::ps=>if zrm l p=0 then zgm l ps else zrm l p
theorem zs7{l:List Ent}{ps:List Prt}{k:Nat}(h:k<ps.length):zgm l (ps.drop k)=if zrm l ps[k]=0 then zgm l (ps.drop (k+1)) else zrm l ps[k]:=by
 rw[List.drop_eq_getElem_cons h];rfl
def zef(g:Lang)(ps:List Prt):Int:=
 if ps.length=0 then 4 else if 4<ps.length then 11 else if zgm g.lex ps≠0 then zgm g.lex ps else if zg4 g.net (zct g.lex ps)=false then 21 else if 24<(zdz g.lex ps).length then 5 else 0
theorem zv5(g:Lang)(V:LangOk g)(ps:List Prt)(X:ps.length<2^20):zan Tryz.prog 41 [g.d,anaD ps] (int (zef g ps)):=by
 refine zab mixed Tryz.func41 rfl c_41 ?_
 obtain⟨R,Y⟩:∃ R,zef g ps=R:=⟨_,rfl⟩
 rw[Y]
 unfold zef at Y
 by_cases Z:ps.length=0
 .rw[if_pos Z] at Y
  subst Y;simp+decide[Tryz.f41,Lang.d,anaD,zat,int,Z];done
 rw[if_neg Z] at Y
 by_cases A:4<ps.length
 .rw[if_pos A] at Y
  subst Y;have E:(4:Int)<ps.length:=by omega
  have K:¬(ps.length:Int)=0:=by omega
  simp+decide[Tryz.f41,Lang.d,anaD,zat,int,Z,K,A,E];done
 rw[if_neg A] at Y
 have E:¬(4:Int)<ps.length:=by omega
 have K:¬(ps.length:Int)=0:=by omega
 simp+decide[Tryz.f41,Lang.d,anaD,zat,int,Z,K,A,E]
 refine zae mixed (λk:Nat=>{n:=73,next:=2,slots:=[(2,.bp 0 0),(3,.bp 1 0),(21,.d (zat ps)),(22,.d (int ps.length)),(23,.d (int k))],own:=[(0,.box 36 (zaz g.d)),(1,.box 39 [.d (zat ps)])]})
  (λk=>k<=ps.length/\zgm g.lex (ps.drop k)=zgm g.lex ps) (λk=>ps.length-k) 0 (by simp) (by simp+decide[int,zat,zaz,Lang.d]) ?_
 intro k ⟨B,J⟩
 by_cases G:k<ps.length
 case neg=>
  have:k=ps.length:=by omega
  subst this;rw[List.drop_length] at J;rw[<-J] at Y;have C:zgm g.lex []=0:=rfl
  rw[C,if_neg (by simp)] at Y
  have I:=yap g V.lex ps X;have N:=yeb g V.lex ps X;have Q:=zfq g.lex ps;have P:=yam g.net V.net (zct g.lex ps) (by omega)
  have T:=zhy V.lex ps;simp+decide[int,zat,zaz,Lang.d];refine zaa (by rfl) (by rfl) I (by simp[int]) ?_
  simp+decide[int,zat,zaz,Lang.d];refine zaa (by rfl) (by rfl) P (by simp[int]) ?_
  cases O:zg4 g.net (zct g.lex ps) with
  |false=>
   rw[if_pos O] at Y;subst Y;simp+decide[int]
  |true=>
   rw[if_neg (by rw[O];decide)] at Y
   simp+decide[int];refine zai.pure (by rfl) N (by simp[int]) ?_
   by_cases S:24<(zdz g.lex ps).length
   .rw[if_pos S] at Y
    subst Y;have L:(24:Int)<(zdz g.lex ps).length:=by omega
    simp+decide[int,ints,S,L]
   .rw[if_neg S] at Y
    subst Y;have L:¬(24:Int)<(zdz g.lex ps).length:=by omega
    simp+decide[int,ints,S,L]
 have M:(k:Int)<ps.length:=by omega
 have hsn:=zs7 (l:=g.lex) G
 rw[J] at hsn
 obtain⟨p,ep⟩:∃ p,ps[k]=p:=⟨_,rfl⟩
 have e1:ps[k]?=some p:=by rw[List.getElem?_eq_getElem G,ep]
 rw[ep] at hsn
 have W:=znl g.lex p.entry V.lex.len
 have hF:=z4j g V.lex p
 have hS:=z0n g.lex p.entry V.lex.len V.lex.senses
 unfold zrm at hsn
 generalize getE g.lex p.entry=r1 at W hsn
 generalize zhg g.lex p=r2 at hF hsn
 generalize zec g.lex p.entry=ss at hS hsn
 obtain⟨e,ok⟩:=r1
 obtain⟨e2,w,ok2⟩:=r2
 simp only at hsn
 simp+decide[int,zat,Prt.row,G,M,e1,ep,I64,zaz,Lang.d]
 refine zai.pure (by rfl) W (by simp[lexD,int]) ?_
 cases ok with
 |false=>
  have:R=9:=by rw[<-Y,hsn];simp
  subst this;simp+decide[int,Ent.row]
 |true=>
  simp+decide[int,Ent.row,Prt.row,I64,zaz,Lang.d];refine zai.pure (by rfl) hF (by simp[lexD,int]) ?_
  cases ok2 with
  |false=>
   have:R=2:=by rw[<-Y,hsn];simp
   subst this;simp+decide[int,zrl,Ent.row]
  |true=>
   simp+decide[int,zrl,Ent.row,Prt.row,I64,zaz,Lang.d];by_cases H:p.sense<0
   .have:R=22:=by rw[<-Y,hsn];simp[H]
    subst this;simp+decide[int,H];intro h;omega
   .simp+decide[int,H]
    intro _;refine zaa (by rfl) (by rfl) hS (by simp[zbv]) ?_
    by_cases F:(ss.length:Int)<=p.sense
    .have:R=22:=by rw[<-Y,hsn];simp[H,F]
     subst this;simp+decide[int,zbv,F]
    .have hd:zgm g.lex (ps.drop (k+1))=zgm g.lex ps:=by rw[hsn];simp[H,F]
     simp+decide[int,zbv,F];exact⟨⟨by omega,by omega⟩,k+1,⟨G,hd⟩,by omega,by simp⟩
def zlm(g:Lang)(ps:List Prt):List Int×Int:=
 if zef g ps≠0 then ([],zef g ps) else if (zgl g.inv g.rules (zdz g.lex ps)).length=0 then ([],23) else (zgl g.inv g.rules (zdz g.lex ps),0)
theorem yi1(g:Lang)(E:LangOk g)(ps:List Prt)(K:ps.length<2^20):zan Tryz.prog 170 [g.d,anaD ps] (.tup [ints (zlm g ps).1,int (zlm g ps).2]):=by
 have J:=zv5 g E ps K
 have L:=yeb g E.lex ps K
 have H:zef g ps=0->(zdz g.lex ps).length<2^40:=by
  intro h;unfold zef at h;repeat' split at h
  all_goals first | omega | skip
 have M:=λh=>yl3 g.inv (by have:=E.inv;omega) g.rules E.rules.1 E.rules.2 (zdz g.lex ps) (H h)
 have G:=zh1 g.inv g.rules (zdz g.lex ps)
 unfold zlm
 generalize zef g ps=R at J M H ⊢
 refine zab mixed Tryz.func170 rfl c_170 ?_
 simp+decide[Tryz.f170,int,Lang.d,anaD,zaz]
 refine zai.pure (by rfl) J (by simp[Lang.d,anaD,zaz,int]) ?_
 by_cases O:R=0
 .subst O
  have M:=M rfl;have H:=H rfl;generalize zgl g.inv g.rules (zdz g.lex ps)=v at M G ⊢;simp+decide[int,Lang.d,zaz];refine zaa (by rfl) (by rfl) L (by simp[Lang.d,anaD,zaz]) ?_
  simp+decide[int,Lang.d,zaz,ints];refine zaa (by rfl) (by rfl) M (by simp[Lang.d,anaD,zaz,ints]) ?_
  by_cases Q:v.length=0
  .simp+decide[int,Lang.d,zaz,ints,Q,List.length_eq_zero_iff.mp Q]
  .have F:v≠[]:=λh=>Q (by rw[h];rfl)
   simp+decide[int,Lang.d,zaz,ints,Q,F]
 .simp+decide[int,ints,O]
theorem z4m(g:Lang)(H:LangOk g)(w:List Int)(G:w.length<2^40)(ps:List Prt)(F:ps.length<2^20):zan Tryz.prog 120 [g.d,ints w,anaD ps] (.bool (decide ((zlm g ps).2=0/\(zlm g ps).1=w))):=by
 have E:=yi1 g H ps F
 have K:=yij (zlm g ps).1 w (by omega)
 generalize zlm g ps=q at E K ⊢
 obtain⟨v,e⟩:=q
 refine zab mixed Tryz.func120 rfl c_120 ?_
 simp+decide[Tryz.f120,int,Lang.d,anaD,zaz]
 refine zai.pure (by rfl) E (by simp[Lang.d,anaD,zaz,int]) ?_
 by_cases J:e=0
 .subst J
  simp+decide[int,ints];refine zai.pure (by rfl) K (by simp[ints]) ?_
  simp+decide[int,ints]
 .simp+decide[int,ints,J]
def wayG(l:List Ent):Nat->Int->List Int
 |0,_=>[]
 |f+1,id=>if (getE l id).2=true then id::(if (getE l id).1.main=0 then [] else wayG l f (getE l id).1.main) else []
theorem z8k(l:List Ent):∀ f id,(wayG l f id).length<=f
 |0,_=>Nat.le_refl _
 |f+1,id=>by
  have:=z8k l f (getE l id).1.main
  unfold wayG;split
  .split <;> simp <;> omega
  .simp
theorem yl4{l:List Ent}{id:Int}(h:(getE l id).2=true):(getE l id).1.id=id:=by
 unfold getE at h ⊢
 cases H:l.find? (·.id=id) with
 |none=>rw[H] at h;cases h
 |some e=>have:=List.find?_some H;simpa using this
theorem zpb(e:Ent)(h:e.alts.length<2^39)(alt:Int):zan Tryz.prog 161 [.agg e.row,int alt] (.bool (decide (0<=alt/\alt<e.forms.length))):=by
 have G:zan Tryz.prog 49 [.agg e.row] (zcb e.forms):=by
  refine zab mixed Tryz.func49 rfl c_49 ?_
  simp[Tryz.f49,Ent.row,zcb,ints,Ent.forms,maxLen];omega
 have H:e.forms.length=e.alts.length+1:=by simp[Ent.forms]
 refine zab mixed Tryz.func161 rfl c_161 ?_
 by_cases F:0<=alt
 .simp+decide[Tryz.f161,int,Ent.row,F]
  refine zai.pure (by rfl) G (by simp[Ent.row,int]) ?_
  simp+decide[int,zcb]
 .simp+decide[Tryz.f161,int,Ent.row,F]
theorem z8l(l:List Ent)(id:Int)(J:l.length<2^40):zan Tryz.prog 109 [lexD l,int id] (ints (wayG l (l.length+1) id)):=by
 refine zab mixed Tryz.func109 rfl c_109 ?_
 simp+decide[Tryz.f109,int,ints]
 refine zai.pure (by rfl) (zni l id (by omega)) (by simp[lexD,int]) ?_
 simp+decide[int,ints]
 refine zae mixed (λx:List Int×Int=>{n:=42,next:=2,slots:=[(0,.d (lexD l)),(5,.ar 1),(6,.d (int (zeb l x.2)))],own:=[(1,.arr 3 1 (x.1.map λn=>[int n]))],moved:=[1]})
  (λx=>x.1++wayG l (l.length+1-x.1.length) x.2=wayG l (l.length+1) id/\x.1.length<=l.length+1) (λx=>l.length+1-x.1.length) ([],id) (by simp) (by simp+decide[int]) ?_
 rintro⟨out,x⟩ ⟨L,M⟩
 simp only at L M
 have O:zeb l x<0->(getE l x).2=false:=by
  intro h;rcases zda l x with⟨_,h2⟩ | ⟨j,Q,T,_⟩
  .rw[h2]
  .omega
 by_cases G:zeb l x<0
 .have V:¬0<=zeb l x:=by omega
  have X:wayG l (l.length+1) id=out:=by
   rw[<-L];have:wayG l (l.length+1-out.length) x=[]:=by
    cases l.length+1-out.length with
    |zero=>rfl
    |succ f=>unfold wayG;rw[if_neg (by rw[O G];decide)]
   rw[this,List.append_nil]
  rw[X];simp+decide[int,ints,V]
 have V:0<=zeb l x:=by omega
 by_cases F:out.length<=l.length
 case neg=>
  have:out.length=l.length+1:=by omega
  have X:wayG l (l.length+1) id=out:=by
   rw[<-L,this,Nat.sub_self];exact List.append_nil _
  rw[X];have H:¬(out.length:Int)<=l.length:=by omega
  simp+decide[int,ints,V,lexD,H]
 rcases zda l x with⟨T,_⟩ | ⟨j,Q,T,h2⟩
 .exact absurd T (by omega)
 have hid:l[j].id=x:=by have:=yl4 (l:=l) (id:=x) (by rw[h2]);rw[h2] at this;exact this
 obtain⟨e,ee⟩:∃ e,l[j]=e:=⟨_,rfl⟩
 have e1:l[j]?=some e:=by rw[List.getElem?_eq_getElem Q,ee]
 rw[ee] at hid h2
 have H:(out.length:Int)<=l.length:=by omega
 have E:(j:Int)<l.length:=by omega
 have hs:wayG l (l.length+1-out.length) x=x::(if e.main=0 then [] else wayG l (l.length+1-(out.length+1)) e.main):=by
  have:l.length+1-out.length=(l.length+1-(out.length+1))+1:=by omega
  rw[this];conv=>lhs;unfold wayG
  rw[if_pos (by rw[h2]),h2]
 rw[hs] at L
 have K:=zni l e.main (by omega)
 by_cases Y:e.main=0
 .rw[if_pos Y] at L
  rw[<-L];simp+decide[int,ints,V,lexD,H,T,Q,E,e1,ee,hid,Y,I64,Ent.row];exact⟨by omega,by unfold maxLen;omega⟩
 .rw[if_neg Y] at L
  simp+decide[int,ints,V,lexD,H,T,Q,E,e1,ee,hid,Y,I64,Ent.row];refine⟨by omega,by unfold maxLen;omega,zai.pure (by rfl) K (by simp[lexD,int,Ent.row,ints]) ?_⟩
  simp+decide[int,ints,lexD];exact⟨out++[x],e.main,⟨by rw[List.length_append,List.append_assoc];exact L,by simp;omega⟩,by simp;omega,rfl,by simp⟩
def senW(l:List Ent):List Int->List Sens
 | []=>[]
 |x::ws=>if (getE l x).1.senses≠[] then (getE l x).1.senses else senW l ws
theorem z8m(l:List Ent):∀ f id,(wayR l f id).getD []=senW l (wayG l f id)
 |0,_=>rfl
 |f+1,id=>by
  have ih:=z8m l f (getE l id).1.main;unfold wayR wayG;by_cases h:(getE l id).2=true
  .rw[if_pos h,if_pos h]
   by_cases hs:(getE l id).1.senses≠[]
   .rw[if_pos hs];unfold senW;rw[if_pos hs];rfl
   .rw[if_neg hs];unfold senW;rw[if_neg hs]
    by_cases H:(getE l id).1.main=0
    .rw[if_pos H,if_pos H];rfl
    .rw[if_neg H,if_neg H];exact ih
  .rw[if_neg h,if_neg h];rfl
theorem zv6(l:List Ent):∀ f id,∀ x∈wayG l f id,(getE l x).2=true
 |0,_,x,H=>by cases H
 |f+1,id,x,H=>by
  unfold wayG at H;split at H
  .rename_i h
   rcases List.mem_cons.mp H with H | H
   .rw[H];exact h
   .split at H
    .cases H
    .exact zv6 l f _ x H
  .cases H
theorem yel{l:List Ent}{ws:List Int}{k:Nat}(h:k<ws.length):senW l (ws.drop k)=if (getE l ws[k]).1.senses≠[] then (getE l ws[k]).1.senses else senW l (ws.drop (k+1)):=by
 rw[List.drop_eq_getElem_cons h];rfl
theorem zs8(l:List Ent)(id:Int)(M:l.length<2^40):zan Tryz.prog 50 [lexD l,int id] (zbv (zec l id)):=by
 unfold zec
 rw[z8m]
 have O:=z8l l id M
 have L:=z8k l (l.length+1) id
 have K:=zv6 l (l.length+1) id
 generalize wayG l (l.length+1) id=ws at O L K ⊢
 refine zab mixed Tryz.func50 rfl c_50 ?_
 simp+decide[Tryz.f50,int]
 refine zai.pure (by rfl) O (by simp[lexD,int]) ?_
 simp+decide[int,ints]
 refine zae mixed (λk:Nat=>{n:=32,next:=1,slots:=[(0,.d (lexD l)),(5,.d (ints ws)),(6,.d (int k))],own:=[]})
  (λk=>k<=ws.length/\senW l (ws.drop k)=senW l ws) (λk=>ws.length-k) 0 (by simp) (by simp+decide[int,ints]) ?_
 intro k ⟨Q,G⟩
 by_cases H:k<ws.length
 case neg=>
  have:k=ws.length:=by omega
  subst this;rw[List.drop_length] at G;rw[<-G];simp+decide[int,ints,zbv,senW]
 have F:(k:Int)<ws.length:=by omega
 have hsn:=yel (l:=l) H
 have E:=K ws[k] (List.getElem_mem H)
 obtain⟨x,ex⟩:∃ x,ws[k]=x:=⟨_,rfl⟩
 have e1:ws[k]?=some x:=by rw[List.getElem?_eq_getElem H,ex]
 rw[ex] at hsn E
 have T:=zni l x (by omega)
 rcases zda l x with⟨V,h2⟩ | ⟨j,X,V,h2⟩
 .rw[h2] at E;cases E
 rw[V] at T
 obtain⟨e,ee⟩:∃ e,l[j]=e:=⟨_,rfl⟩
 have ej:l[j]?=some e:=by rw[List.getElem?_eq_getElem X,ee]
 rw[ee] at h2
 rw[h2] at hsn
 have J:(j:Int)<l.length:=by omega
 simp+decide[int,ints,H,F,e1,ex,lexD]
 refine zai.pure (by rfl) T (by simp[lexD,int]) ?_
 by_cases hs:e.senses=[]
 .rw[if_neg (by simpa using hs)] at hsn
  simp+decide[int,ints,lexD,X,J,ej,ee,hs,Ent.row,zbv];exact⟨⟨by omega,by omega⟩,k+1,⟨H,by rw[<-hsn];exact G⟩,by omega,by simp⟩
 .rw[if_pos (by simpa using hs)] at hsn
  rw[<-G,hsn];simp+decide[int,ints,lexD,X,J,ej,ee,hs,Ent.row,zbv]
theorem yem(g:Lang)(H:LexFit g.lex)(p:Prt):zan Tryz.prog 104 [g.d,.agg p.row] (int (zrm g.lex p)):=by
 have G:=znj g.lex p.entry (by have:=H.len;omega)
 have F:=zs8 g.lex p.entry H.len
 have E:=zhx H p.entry
 unfold zrm zhg
 generalize getE g.lex p.entry=r at G E ⊢
 obtain⟨e,ok⟩:=r
 simp only at G E ⊢
 have K:=zpb e E p.alt
 refine zab mixed Tryz.func104 rfl c_104 ?_
 simp+decide[Tryz.f104,Lang.d,Prt.row,int]
 refine zai.pure (by rfl) G (by simp[lexD,int]) ?_
 cases ok with
 |false=>simp+decide[int,Ent.row]
 |true=>
  simp+decide[int,Ent.row];refine zai.pure (by rfl) K (by simp[Ent.row,int]) ?_
  by_cases J:0<=p.alt/\p.alt<e.forms.length
  .simp+decide[int,J]
   refine⟨λh1 h2=>absurd h2 (by omega),λh=>?_⟩
   refine zaa (by rfl) (by rfl) F (by simp[lexD,int]) ?_
   have L:¬p.sense<0:=by omega
   by_cases hs:((zec g.lex p.entry).length:Int)<=p.sense
   .simp+decide[int,zbv,L,hs]
   .simp+decide[int,zbv,L,hs]
  .simp+decide[int,J]
theorem z8n(l:List Ent)(p:Prt):zhg l p=if (getE l p.entry).2=true/\(0<=p.alt/\p.alt<(getE l p.entry).1.forms.length) then ((getE l p.entry).1,((getE l p.entry).1.forms[p.alt.toNat]?.getD []),true) else ((getE l p.entry).1,[],false):=rfl
theorem zh2{P:Program}{all:List Oper}{n0:Nat}{vl:List Nat}{K:St->List FK->List (Nat×Obj')->Prop}{o:Oper}{r:List Oper}{st:St}{ks:List FK}{hs:List (Nat×Obj')}:
  fseg P all n0 vl K (o::r) st ks hs=(xdst o.dst st.n=true/\fop P all n0 vl o st hs (λk H=>fseg P all n0 vl K r (st.put o.dst k.sym) (k::ks) H)):=rfl
theorem zx8(g:Lang)(E:LexFit g.lex)(ps:List Prt)(K:ps.length<2^20):zan Tryz.prog 106 [g.d,anaD ps] (ints (zct g.lex ps)):=by
 refine zab mixed Tryz.func106 rfl c_106 ?_
 simp+decide[Tryz.f106,Lang.d,anaD,zat,int]
 refine zae mixed (λk:Nat=>{n:=45,next:=4,slots:=[(2,.bp 0 0),(3,.bp 1 0),(5,.ar 3),(6,.d (int k))],own:=[(0,.box 36 (zaz g.d)),(1,.box 39 [.d (zat ps)]),(3,.arr 3 1 ((zct g.lex (ps.take k)).map λn=>[int n]))],moved:=[3]})
  (λk=>k<=ps.length) (λk=>ps.length-k) 0 (by simp) (by simp+decide[int,zat,zct,zaz,Lang.d]) ?_
 intro k J
 by_cases H:k<ps.length
 case neg=>
  have:k=ps.length:=by omega
  subst this;rw[List.take_length];simp+decide[int,ints,zat]
 have G:(k:Int)<ps.length:=by omega
 have hsn:=znn (l:=g.lex) H
 have F:=zfq g.lex (ps.take k)
 rw[List.length_take] at F
 obtain⟨p,ep⟩:∃ p,ps[k]=p:=⟨_,rfl⟩
 have e1:ps[k]?=some p:=by rw[List.getElem?_eq_getElem H,ep]
 rw[ep,z8n] at hsn
 have L:=znj g.lex p.entry (by have:=E.len;omega)
 have M:=zhx E p.entry
 generalize getE g.lex p.entry=r at L M hsn
 obtain⟨e,ok⟩:=r
 simp only at L M hsn
 have O:=zpb e M p.alt
 simp+decide[int,zat,Prt.row,H,G,e1,ep,I64,zaz,Lang.d]
 refine yg2 mixed 15 [] (by rfl) (by rfl) (by rfl) (by rfl) ?_
 dsimp only[List.take]
 iterate 8 (rw[zh2];simp+decide[-fseg,int,zat,Prt.row,H,G,e1,ep,I64,zaz,Lang.d])
 rw[zh2]
 simp+decide[-fseg,int,zat,Prt.row,H,G,e1,ep,I64,zaz,Lang.d]
 refine zaa (by rfl) (by rfl) L (by simp[lexD,int]) ?_
 simp+decide[-fseg,int]
 iterate 6 (rw[zh2];simp+decide[-fseg,int,Ent.row])
 refine⟨by rfl,?_⟩
 cases ok with
 |false=>
  simp only[Bool.false_eq_true,false_and,if_false,List.append_nil] at hsn;simp+decide[int,ints,Ent.row,zat,Prt.row,I64,zaz,Lang.d];exact⟨⟨by omega,by omega⟩,k+1,H,by omega,by omega,by rw[hsn]⟩
 |true=>
  simp+decide[int,ints,Ent.row,zat,Prt.row,H,G,e1,ep,I64,zaz,Lang.d];refine zaa (by rfl) (by rfl) O (by simp[Ent.row,int,ints]) ?_
  by_cases Q:0<=p.alt/\p.alt<e.forms.length
  .simp only[true_and,Q,and_self,if_true] at hsn
   simp+decide[int,ints,Ent.row,zat,Prt.row,I64,zaz,Lang.d,Q];exact⟨by omega,by unfold maxLen;omega,⟨by omega,by omega⟩,k+1,H,by omega,by omega,by rw[hsn];simp⟩
  .simp only[true_and,Q,Bool.false_eq_true,if_false,List.append_nil] at hsn
   simp+decide[int,ints,Ent.row,zat,Prt.row,I64,zaz,Lang.d,Q];exact⟨⟨by omega,by omega⟩,k+1,H,by omega,by omega,by rw[hsn]⟩
theorem zqj(e:Ent)(h:e.alts.length<2^40):zan Tryz.prog 49 [.agg e.row] (zcb e.forms):=by
 refine zab mixed Tryz.func49 rfl c_49 ?_
 simp[Tryz.f49,Ent.row,zcb,ints,Ent.forms,maxLen]
 omega
theorem zv7(g:Lang)(K:LexFit g.lex)(ps:List Prt)(J:ps.length<2^20):zan Tryz.prog 107 [g.d,anaD ps] (ints (zdz g.lex ps)):=by
 refine zab mixed Tryz.func107 rfl c_107 ?_
 simp+decide[Tryz.f107,Lang.d,anaD,zat,int]
 refine zae mixed (λk:Nat=>{n:=52,next:=4,slots:=[(2,.bp 0 0),(3,.bp 1 0),(5,.ar 3),(6,.d (int k))],own:=[(0,.box 36 (zaz g.d)),(1,.box 39 [.d (zat ps)]),(3,.arr 3 1 ((zdz g.lex (ps.take k)).map λn=>[int n]))],moved:=[3]})
  (λk=>k<=ps.length) (λk=>ps.length-k) 0 (by simp) (by simp+decide[int,zat,zdz,zaz,Lang.d]) ?_
 intro k L
 by_cases G:k<ps.length
 case neg=>
  have:k=ps.length:=by omega
  subst this;rw[List.take_length];simp+decide[int,ints,zat]
 have H:(k:Int)<ps.length:=by omega
 have hsn:=zv3 (l:=g.lex) G
 have E:=zhy K (ps.take k)
 rw[List.length_take] at E
 obtain⟨p,ep⟩:∃ p,ps[k]=p:=⟨_,rfl⟩
 have e1:ps[k]?=some p:=by rw[List.getElem?_eq_getElem G,ep]
 rw[ep,z8n] at hsn
 have M:=znj g.lex p.entry (by have:=K.len;omega)
 have O:=zhx K p.entry
 have F:(0<=p.alt/\p.alt<(getE g.lex p.entry).1.forms.length)->((getE g.lex p.entry).1.forms[p.alt.toNat]?.getD []).length<2^20:=by
  intro h;by_cases Q:(getE g.lex p.entry).2=true
  .have:=zs4 K p
   unfold zhg at this;rw[if_pos ⟨Q,h⟩] at this;exact this
  .rcases zda g.lex p.entry with⟨_,h2⟩ | ⟨j,T,_,h2⟩
   .rw[h2] at h ⊢
    have V:p.alt=0:=by have:=h.2;simp[Ent.zero,Ent.forms] at this;omega
    rw[V];decide
   .rw[h2] at Q;exact absurd rfl Q
 generalize getE g.lex p.entry=r at M O hsn F
 obtain⟨e,ok⟩:=r
 simp only at M O hsn F
 have X:=zpb e O p.alt
 have Y:=zqj e (by omega)
 simp+decide[int,zat,Prt.row,G,H,e1,ep,I64,zaz,Lang.d]
 refine yg2 mixed 15 [] (by rfl) (by rfl) (by rfl) (by rfl) ?_
 dsimp only[List.take]
 iterate 8 (rw[zh2];simp+decide[-fseg,int,zat,Prt.row,G,H,e1,ep,I64,zaz,Lang.d])
 rw[zh2]
 simp+decide[-fseg,int,zat,Prt.row,G,H,e1,ep,I64,zaz,Lang.d]
 refine zaa (by rfl) (by rfl) M (by simp[lexD,int]) ?_
 simp+decide[-fseg,int]
 iterate 6 (rw[zh2];simp+decide[-fseg,int,Ent.row])
 refine⟨by rfl,?_⟩
 cases ok with
 |false=>
  simp only[Bool.false_eq_true,false_and,if_false,List.append_nil] at hsn;simp+decide[int,ints,Ent.row,zat,Prt.row,I64,zaz,Lang.d];exact⟨⟨by omega,by omega⟩,k+1,G,by omega,by omega,by rw[hsn]⟩
 |true=>
  simp+decide[int,ints,Ent.row,zat,Prt.row,G,H,e1,ep,I64,zaz,Lang.d];refine zaa (by rfl) (by rfl) X (by simp[Ent.row,int,ints]) ?_
  by_cases Z:0<=p.alt/\p.alt<e.forms.length
  .simp only[true_and,Z,and_self,if_true] at hsn
   have V:p.alt.toNat<e.forms.length:=by omega
   obtain⟨w,ew⟩:∃ w,e.forms[p.alt.toNat]=w:=⟨_,rfl⟩;have ew':e.forms[p.alt.toNat]?=some w:=by rw[List.getElem?_eq_getElem V,ew]
   rw[ew',Option.getD_some] at hsn F;have F:=F Z;simp+decide[int,ints,Ent.row,zat,Prt.row,I64,zaz,Lang.d,Z];refine zjj mixed 11 (by rfl) (by rfl) (by rfl) (by rfl) (by simp) ?_
   simp+decide[int,ints,Ent.row,zat,Prt.row,G,H,e1,ep,I64,zaz,Lang.d,Z];refine zaa (by rfl) (by rfl) Y (by simp[Ent.row,int,ints]) ?_
   simp+decide[int,ints,Ent.row,zat,Prt.row,G,H,e1,ep,I64,zaz,Lang.d,Z,zcb,ew',ew,V];exact⟨by omega,by unfold maxLen;omega,⟨by omega,by omega⟩,k+1,G,by omega,by omega,by rw[hsn];simp⟩
  .simp only[true_and,Z,Bool.false_eq_true,if_false,List.append_nil] at hsn
   simp+decide[int,ints,Ent.row,zat,Prt.row,I64,zaz,Lang.d,Z];exact⟨⟨by omega,by omega⟩,k+1,G,by omega,by omega,by rw[hsn]⟩
def bls(S m:Nat):List Bool:=(List.range S).map λq=>m.testBit q
def zcd(l:List Bool):D:=.sl (l.map λb=>[.bool b])
@[simp] theorem ypc(S m:Nat):(bls S m).length=S:=by simp[bls]
theorem zs9{S m q:Nat}(h:q<S):(bls S m)[q]?=some (m.testBit q):=by simp[bls,h]
theorem yen{S m q:Nat}(h:q<(bls S m).length):(bls S m)[q]=m.testBit q:=by simp[bls]
theorem zx9(S:Nat):bls S 0=List.replicate S false:=by
 apply List.ext_getElem <;> simp[bls]
theorem z0t(m q j:Nat):(m ||| (1 <<< q)).testBit j=(m.testBit j || decide (q=j)):=by
 rw[Nat.testBit_or,Nat.one_shiftLeft,Nat.testBit_two_pow]
theorem yeo{S m q:Nat}(h:q<S):(bls S m).set q true=bls S (zlk m (q:Int)):=by
 apply List.ext_getElem
 .simp
 .intro i H h2
  have hi:i<S:=by simpa using h2
  rw[List.getElem_set];unfold zlk;simp only[bls,List.getElem_map,List.getElem_range,Int.toNat_natCast,z0t];by_cases e:q=i
  .subst e;simp
  .simp[e]
structure NetL(n:Nett):Prop where
 lo:1<=n.states
 hi:n.states<=3
 steps:∀ s∈n.steps,(0<=s.src/\s.src<n.states)/\(0<=s.dst/\s.dst<n.states)/\1<=s.cls
 final:∀ q∈n.final,0<=q/\q<n.states
 few:n.steps.length<2^40
 few2:n.final.length<2^40
theorem NetL.ok{n:Nett}(h:NetL n):yly n:=by
 refine⟨λs hs=>?_,λq hq=>?_,h.few,h.few2⟩
 .have:=h.steps s hs;have:=h.hi;omega
 .have:=h.final q hq;have:=h.hi;omega
theorem z8o(n:Nett)(L:NetL n)(l:List Int)(M:∀ q∈l,0<=q/\q<n.states)(E:l.length<2^40):
  zan Tryz.prog 164 [.agg n.cells,ints l] (zcd (bls n.states.toNat (zc9 l))):=by
 have O:=L.lo
 have Q:=L.hi
 refine zab mixed Tryz.func164 rfl c_164 ?_
 simp+decide[Tryz.f164,Nett.cells,int,ints]
 refine⟨by omega,by omega,by unfold maxLen;omega,?_⟩
 refine zae mixed (λk:Nat=>{n:=23,next:=3,slots:=[(1,.d (ints l)),(5,.ar 2),(6,.d (int k))],own:=[(2,.arr 4 1 ((bls n.states.toNat (zc9 (l.take k))).map λb=>[.bool b]))],moved:=[]})
  (λk=>k<=l.length) (λk=>l.length-k) 0 (by simp) (by simp+decide[int,ints,zc9,zx9]) ?_
 intro k T
 by_cases H:k<l.length
 case neg=>
  have:k=l.length:=by omega
  subst this;rw[List.take_length];simp+decide[int,ints,zcd]
 have G:(k:Int)<l.length:=by omega
 have V:=M l[k] (List.getElem_mem H)
 have hsn:zc9 (l.take (k+1))=zlk (zc9 (l.take k)) l[k]:=by unfold zc9;rw[zao H,List.foldl_append];rfl
 obtain⟨q,eq⟩:∃ q,l[k]=q:=⟨_,rfl⟩
 have e1:l[k]?=some q:=by rw[List.getElem?_eq_getElem H,eq]
 rw[eq] at V hsn
 have F:=yeo (S:=n.states.toNat) (m:=zc9 (l.take k)) (q:=q.toNat) (by omega)
 rw[show((q.toNat:Nat):Int)=q by omega,<-hsn] at F
 have K:=zs9 (S:=n.states.toNat) (m:=zc9 (l.take k)) (q:=q.toNat) (by omega)
 have J:(List.map (λb=>[D.bool b]) (bls n.states.toNat (zc9 (l.take k)))).set q.toNat [D.bool true]=List.map (λb=>[D.bool b]) (bls n.states.toNat (zc9 (l.take (k+1)))):=by
  rw[<-F,List.map_set]
 simp+decide[int,ints,H,G,e1,eq,V.1,V.2,K]
 exact⟨by omega,by omega,⟨by omega,by omega⟩,k+1,H,by omega,by omega,J⟩
def znq(m:Nat)(c:Int)(out:Nat)(s:Stp):Nat:=if hasS m s.src=true/\(c=0\/s.cls=c) then zlk out s.dst else out
def zjf(l:List Stp)(m:Nat)(c:Int):Nat:=l.foldl (znq m c) 0
theorem yav(n:Nett)(O:NetL n)(m:Nat)(c:Int):
  zan Tryz.prog 206 [.agg n.cells,zcd (bls n.states.toNat m),int c] (zcd (bls n.states.toNat (zjf n.steps m c))):=by
 have Q:=O.lo
 have T:=O.hi
 have K:=O.few
 refine zab mixed Tryz.func206 rfl c_206 ?_
 simp+decide[Tryz.f206,Nett.cells,int,ints,zcd]
 refine⟨by omega,by omega,by unfold maxLen;omega,?_⟩
 refine zae mixed (λk:Nat=>{n:=45,next:=3,slots:=[(1,.d (zcd (bls n.states.toNat m))),(2,.d (int c)),(3,.bp 0 0),(7,.ar 2),(8,.d (int k))],own:=[(0,.box 33 (n.cells.map .d)),(2,.arr 4 1 ((bls n.states.toNat (zjf (n.steps.take k) m c)).map λb=>[.bool b]))],moved:=[]})
  (λk=>k<=n.steps.length) (λk=>n.steps.length-k) 0 (by simp) (by simp+decide[int,ints,zjf,zx9,Nett.cells,zcd]) ?_
 intro k V
 by_cases H:k<n.steps.length
 case neg=>
  have:k=n.steps.length:=by omega
  subst this;rw[List.take_length];simp+decide[int,ints,zcd,Nett.cells,stepsD]
 have G:(k:Int)<n.steps.length:=by omega
 have X:=O.steps n.steps[k] (List.getElem_mem H)
 have hsn:zjf (n.steps.take (k+1)) m c=znq m c (zjf (n.steps.take k) m c) n.steps[k]:=by unfold zjf;rw[zao H,List.foldl_append];rfl
 obtain⟨x,eq⟩:∃ x,n.steps[k]=x:=⟨_,rfl⟩
 have e1:n.steps[k]?=some x:=by rw[List.getElem?_eq_getElem H,eq]
 rw[eq] at X hsn
 obtain⟨⟨q1,q2⟩,⟨q3,q4⟩,q5⟩:=X
 have Y:=zs9 (S:=n.states.toNat) (m:=m) (q:=x.src.toNat) (by omega)
 have F:=yeo (S:=n.states.toNat) (m:=zjf (n.steps.take k) m c) (q:=x.dst.toNat) (by omega)
 rw[show((x.dst.toNat:Nat):Int)=x.dst by omega] at F
 have J:=zs9 (S:=n.states.toNat) (m:=zjf (n.steps.take k) m c) (q:=x.dst.toNat) (by omega)
 have E:(List.map (λb=>[D.bool b]) (bls n.states.toNat (zjf (n.steps.take k) m c))).set x.dst.toNat [D.bool true]=List.map (λb=>[D.bool b]) (bls n.states.toNat (zlk (zjf (n.steps.take k) m c) x.dst)):=by
  rw[<-F,List.map_set]
 unfold znq hasS at hsn
 cases Z:m.testBit x.src.toNat with
 |false=>
  rw[Z] at Y hsn;rw[if_neg (by simp)] at hsn
  simp+decide[int,ints,H,G,e1,eq,q1,q2,q3,q4,Y,zcd,Nett.cells,stepsD,Stp.row];exact⟨by omega,⟨by omega,by omega⟩,k+1,H,by omega,by omega,by rw[hsn]⟩
 |true=>
  rw[Z] at Y hsn;by_cases A:c=0\/x.cls=c
  .rw[if_pos ⟨rfl,A⟩] at hsn
   simp+decide[int,ints,H,G,e1,eq,q1,q2,q3,q4,Y,zcd,Nett.cells,stepsD,Stp.row,A,J];refine⟨by omega,λB=>⟨λh=>⟨by omega,by omega,⟨by omega,by omega⟩,k+1,H,by omega,by omega,by rw[hsn];exact E⟩,λh=>absurd A (by rintro(C | C);exact B C;exact h C)⟩,λB=>⟨by omega,by omega,⟨by omega,by omega⟩,k+1,H,by omega,by omega,by rw[hsn];exact E⟩⟩
  .rw[if_neg (λh=>A h.2)] at hsn
   have L:¬c=0:=λh=>A (.inl h)
   have M:¬x.cls=c:=λh=>A (.inr h)
   simp+decide[int,ints,H,G,e1,eq,q1,q2,q3,q4,Y,zcd,Nett.cells,stepsD,Stp.row,L,M];exact⟨by omega,⟨by omega,by omega⟩,k+1,H,by omega,by omega,by rw[hsn]⟩
def z4n(S a b:Nat):Bool:=(List.range S).any λq=>a.testBit q&&b.testBit q
theorem yep(S a b:Nat)(K:S<=3):zan Tryz.prog 162 [zcd (bls S a),zcd (bls S b)] (.bool (z4n S a b)):=by
 refine zab mixed Tryz.func162 rfl c_162 ?_
 simp+decide[Tryz.f162,int,zcd]
 refine zae mixed (λk:Nat=>{n:=22,next:=0,slots:=[(0,.d (zcd (bls S a))),(1,.d (zcd (bls S b))),(5,.d (int k))],own:=[],moved:=[]})
  (λk=>k<=S/\∀ j,j<k->(a.testBit j&&b.testBit j)=false) (λk=>S-k) 0 (by simp) (by simp+decide[int,zcd]) ?_
 intro k ⟨J,L⟩
 by_cases H:k<S
 case neg=>
  have:k=S:=by omega
  subst this;have:z4n k a b=false:=by
   unfold z4n;rw[List.any_eq_false];intro j M;rw[L j (List.mem_range.mp M)];decide
  rw[this];simp+decide[int,zcd]
 have G:(k:Int)<S:=by omega
 have O:=zs9 (S:=S) (m:=a) (q:=k) H
 have Q:=zs9 (S:=S) (m:=b) (q:=k) H
 have E:(a.testBit k&&b.testBit k)=false->∀ j,j<k+1->(a.testBit j&&b.testBit j)=false:=by
  intro h j M;rcases Nat.lt_succ_iff_lt_or_eq.mp M with T | T
  .exact L j T
  .rw[T];exact h
 have F:(a.testBit k&&b.testBit k)=true->z4n S a b=true:=by
  intro h;unfold z4n;rw[List.any_eq_true];exact⟨k,List.mem_range.mpr H,h⟩
 cases V:a.testBit k with
 |false=>
  rw[V] at O;simp+decide[int,H,G,O,zcd,yen,V];exact⟨⟨by omega,by omega⟩,k+1,⟨H,λj M=>by simpa using E (by rw[V];rfl) j M⟩,by omega,by omega⟩
 |true=>
  rw[V] at O;cases X:b.testBit k with
  |false=>
   rw[X] at Q;simp+decide[int,H,G,O,Q,zcd,yen,V,X];exact⟨⟨by omega,by omega⟩,k+1,⟨H,λj M=>by simpa using E (by rw[V,X];rfl) j M⟩,by omega,by omega⟩
  |true=>
   rw[X] at Q;rw[F (by rw[V,X];rfl)]
   simp+decide[int,H,G,O,Q,zcd,yen,V,X]
theorem yeq{S m:Nat}{q:Int}(H:m<2^S)(G:0<=q)(F:q<S):zlk m q<2^S:=by
 unfold zlk
 refine Nat.or_lt_two_pow H ?_
 rw[Nat.one_shiftLeft]
 exact Nat.pow_lt_pow_right (by omega) (by omega)
theorem yer{n:Nett}(H:NetL n)(m:Nat){c:Int}(G:1<=c):zjf n.steps m c=zfp n.steps m c:=by
 unfold zjf zfp
 congr 1
 funext out s
 unfold znq zb4
 have:¬c=0:=by omega
 simp[this]
theorem yaw{n:Nett}(H:NetL n)(m:Nat){c:Int}(G:c<1):zfp n.steps m c=0:=by
 unfold zfp
 have key:∀ l:List Stp,(∀ s∈l,1<=s.cls)->l.foldl (zb4 m c) 0=0:=by
  intro l;induction l with
  |nil=>intro _;rfl
  |cons s l ih=>
   intro h;rw[List.foldl_cons];have F:=h s (List.mem_cons_self ..);have:zb4 m c 0 s=0:=by unfold zb4;rw[if_neg (λh=>by omega)]
   rw[this];exact ih λx E=>h x (List.mem_cons_of_mem _ E)
 exact key _ λs hs=>(H.steps s hs).2.2
theorem z8p{m:Nat}{c:Int}{S:Nat}:∀ (l:List Stp) (out:Nat),(∀ s∈l,0<=s.dst/\s.dst<S)->out<2^S->l.foldl (zb4 m c) out<2^S
 | [],out,_,h=>h
 |s::l,out,H,h=>by
  rw[List.foldl_cons];refine z8p l _ (λx G=>H x (List.mem_cons_of_mem _ G)) ?_
  have:=H s (List.mem_cons_self ..)
  unfold zb4;split
  .exact yeq h this.1 this.2
  .exact h
theorem yax{n:Nett}(H:NetL n)(m:Nat)(c:Int):zfp n.steps m c<2^n.states.toNat:=
 z8p _ _ (λs hs=>by have:=(H.steps s hs).2.1;have:=H.lo;omega) (Nat.two_pow_pos _)
theorem z4o{n:Nett}(c:Int):zfp n.steps 0 c=0:=by
 unfold zfp
 induction n.steps with
 |nil=>rfl
 |cons s l ih=>
  rw[List.foldl_cons];have:zb4 0 c 0 s=0:=by unfold zb4 hasS;rw[if_neg (λh=>by simp at h)]
  rw[this];exact ih
theorem z8q{n:Nett}:∀ cs:List Int,cs.foldl (λm c=>zfp n.steps m c) 0=0
 | []=>rfl
 |c::cs=>by rw[List.foldl_cons,z4o];exact z8q cs
theorem yi2{n:Nett}(H:NetL n){cs:List Int}{k:Nat}(G:k<cs.length)(F:cs[k]<1):runS n.steps cs=0:=by
 unfold runS
 have:cs=cs.take k++cs[k]::cs.drop (k+1):=by rw[<-List.drop_eq_getElem_cons G,List.take_append_drop]
 rw[this,List.foldl_append,List.foldl_cons,yaw H _ F]
 exact z8q _
theorem yi3{n:Nett}(H:NetL n)(cs:List Int):runS n.steps cs<2^n.states.toNat:=by
 unfold runS
 have key:∀ (cs:List Int) (m:Nat),m<2^n.states.toNat->cs.foldl (λm c=>zfp n.steps m c) m<2^n.states.toNat:=by
  intro cs;induction cs with
  |nil=>intro m h;exact h
  |cons c cs ih=>intro m h;rw[List.foldl_cons];exact ih _ (yax H _ _)
 refine key cs 1 ?_
 have:=H.lo
 exact Nat.one_lt_two_pow (by omega)
theorem z4p(n:Nett)(E:NetL n)(l:List Int)(K:l.length<2^40):zan Tryz.prog 163 [.agg n.cells,ints l] (zcd (bls n.states.toNat (runS n.steps l))):=by
 have J:=E.lo
 have L:=E.hi
 have M:=z8o n E [0] (by intro q O;rw[List.mem_singleton] at O;omega) (by decide)
 have Q:zc9 [0]=1:=by decide
 rw[Q] at M
 refine zab mixed Tryz.func163 rfl c_163 ?_
 simp+decide[Tryz.f163,Nett.cells,int,ints,zcd]
 refine zuq (by rfl) M (by simp) ?_
 simp+decide[int,ints,zcd,Nett.cells]
 refine zae mixed (λk:Nat=>{n:=32,next:=1,slots:=[(1,.d (ints l)),(2,.bp 0 0),(5,.d (zcd (bls n.states.toNat (runS n.steps (l.take k))))),(6,.d (int k))],own:=[(0,.box 33 (n.cells.map .d))],moved:=[]})
  (λk=>k<=l.length) (λk=>l.length-k) 0 (by simp) (by simp+decide[int,ints,runS,zcd,Nett.cells]) ?_
 intro k T
 by_cases H:k<l.length
 case neg=>
  have:k=l.length:=by omega
  subst this;rw[List.take_length];simp+decide[int,ints,zcd,Nett.cells]
 have G:(k:Int)<l.length:=by omega
 have hsn:runS n.steps (l.take (k+1))=zfp n.steps (runS n.steps (l.take k)) l[k]:=by unfold runS;rw[zao H,List.foldl_append];rfl
 have F:=λh=>yi2 E H h
 obtain⟨c,ec⟩:∃ c,l[k]=c:=⟨_,rfl⟩
 have e1:l[k]?=some c:=by rw[List.getElem?_eq_getElem H,ec]
 rw[ec] at hsn F
 have V:=yav n E (runS n.steps (l.take k)) c
 by_cases X:c<1
 .rw[F X]
  simp+decide[int,ints,H,G,e1,ec,X,zcd,Nett.cells,zx9];exact⟨by omega,by omega,by unfold maxLen;omega⟩
 .rw[yer E _ (by omega),<-hsn] at V
  simp+decide[int,ints,H,G,e1,ec,X,zcd,Nett.cells];refine zaa (by rfl) (by rfl) V (by simp[int,ints,zcd,Nett.cells]) ?_
  simp+decide[int,ints,zcd,Nett.cells];exact⟨⟨by omega,by omega⟩,k+1,H,by omega,rfl,by simp⟩
theorem yeu:∀ (S:Fin 4) (a b:Fin 8),a.val<2^S.val->z4n S.val a.val b.val=decide (a.val &&& b.val≠0):=by decide +kernel
theorem zya(n:Nett)(E:NetL n)(cs:List Int)(K:cs.length<2^40):zan Tryz.prog 105 [.agg n.cells,ints cs] (.bool (zg4 n cs)):=by
 have J:=E.lo
 have L:=E.hi
 have M:=z4p n E cs K
 have O:=z8o n E n.final E.final E.few2
 have Q:=yep n.states.toNat (runS n.steps cs) (zc9 n.final) (by omega)
 have G:=yi3 E cs
 have H:runS n.steps cs<8:=Nat.lt_of_lt_of_le G (Nat.pow_le_pow_right (by omega) (show n.states.toNat<=3 by omega))
 have F:=znk n.final 0 (λq T=>E.ok.2.1 q T) (by omega)
 have heq:z4n n.states.toNat (runS n.steps cs) (zc9 n.final)=zg4 n cs:=by
  unfold zg4;exact yeu ⟨n.states.toNat,by omega⟩ ⟨_,H⟩ ⟨_,F⟩ G
 rw[heq] at Q
 refine zab mixed Tryz.func105 rfl c_105 ?_
 simp+decide[Tryz.f105,Nett.cells,int,ints]
 refine zaa (by rfl) (by rfl) M (by simp[Nett.cells,int,ints]) ?_
 simp+decide[int,ints,zcd,Nett.cells]
 refine zaa (by rfl) (by rfl) O (by simp[Nett.cells,int,ints]) ?_
 simp+decide[int,ints,zcd,Nett.cells]
 refine zaa (by rfl) (by rfl) Q (by simp[Nett.cells,int,ints,zcd]) ?_
 simp+decide[int,ints,zcd,Nett.cells]
structure LangL(g:Lang):Prop extends LangOk g where
 light:NetL g.net
theorem znr(g:Lang)(Q:LangL g)(ps:List Prt)(T:ps.length<2^20):zan Tryz.prog 46 [g.d,anaD ps] (int (zef g ps)):=by
 refine zab mixed Tryz.func46 rfl c_46 ?_
 obtain⟨R,V⟩:∃ R,zef g ps=R:=⟨_,rfl⟩
 rw[V]
 unfold zef at V
 by_cases X:ps.length=0
 .rw[if_pos X] at V
  subst V;simp+decide[Tryz.f46,Lang.d,anaD,zat,int,X];done
 rw[if_neg X] at V
 by_cases Y:4<ps.length
 .rw[if_pos Y] at V
  subst V;have G:(4:Int)<ps.length:=by omega
  have F:¬(ps.length:Int)=0:=by omega
  simp+decide[Tryz.f46,Lang.d,anaD,zat,int,X,F,Y,G];done
 rw[if_neg Y] at V
 have G:¬(4:Int)<ps.length:=by omega
 have F:¬(ps.length:Int)=0:=by omega
 simp+decide[Tryz.f46,Lang.d,anaD,zat,int,X,F,Y,G]
 refine zae mixed (λk:Nat=>{n:=44,next:=2,slots:=[(2,.bp 0 0),(3,.bp 1 0),(5,.d (int k))],own:=[(0,.box 36 (zaz g.d)),(1,.box 39 [.d (zat ps)])],moved:=[]})
  (λk=>k<=ps.length/\zgm g.lex (ps.drop k)=zgm g.lex ps) (λk=>ps.length-k) 0 (by simp) (by simp+decide[int,zat,zaz,Lang.d]) ?_
 intro k ⟨Z,E⟩
 by_cases H:k<ps.length
 case neg=>
  have:k=ps.length:=by omega
  subst this;rw[List.drop_length] at E;rw[<-E] at V;have A:zgm g.lex []=0:=rfl
  rw[A,if_neg (by simp)] at V
  have B:=zx8 g Q.lex ps T;have C:=zv7 g Q.lex ps T;have M:=zfq g.lex ps;have I:=zya g.net Q.light (zct g.lex ps) (by omega)
  have O:=zhy Q.lex ps;simp+decide[int,zat,zaz,Lang.d];refine zaa (by rfl) (by rfl) B (by simp[int]) ?_
  simp+decide[int,zat,zaz,Lang.d];refine zaa (by rfl) (by rfl) I (by simp[int]) ?_
  cases L:zg4 g.net (zct g.lex ps) with
  |false=>
   rw[if_pos L] at V;subst V;simp+decide[int]
  |true=>
   rw[if_neg (by rw[L];decide)] at V
   simp+decide[int];refine zai.pure (by rfl) C (by simp[int]) ?_
   by_cases N:24<(zdz g.lex ps).length
   .rw[if_pos N] at V
    subst V;have K:(24:Int)<(zdz g.lex ps).length:=by omega
    simp+decide[int,ints,N,K]
   .rw[if_neg N] at V
    subst V;have K:¬(24:Int)<(zdz g.lex ps).length:=by omega
    simp+decide[int,ints,N,K]
 have J:(k:Int)<ps.length:=by omega
 have hsn:=zs7 (l:=g.lex) H
 rw[E] at hsn
 obtain⟨p,ep⟩:∃ p,ps[k]=p:=⟨_,rfl⟩
 have e1:ps[k]?=some p:=by rw[List.getElem?_eq_getElem H,ep]
 rw[ep] at hsn
 have P:=yem g Q.lex p
 generalize zrm g.lex p=r at P hsn
 simp+decide[int,zat,Prt.row,H,J,e1,ep,I64,zaz,Lang.d]
 refine zaa (by rfl) (by rfl) P (by simp[int,Lang.d,Prt.row]) ?_
 by_cases S:r=0
 .rw[if_pos S] at hsn
  subst S;simp+decide[int,zat,Prt.row,I64,zaz,Lang.d];exact⟨⟨by omega,by omega⟩,k+1,⟨H,hsn.symm⟩,by omega,by simp⟩
 .rw[if_neg S] at hsn
  have:R=r:=by rw[<-V,hsn,if_pos S]
  subst this;simp+decide[int,zat,Prt.row,I64,zaz,Lang.d,S]
end Go.V
namespace Go.V
open Go Go.Proofs
section
variable {P:Program}
theorem zyb{f:Nat}{fn:Func}{c:Code}(F:P.funcs[f]?=some fn)(K:fn.body=some c)(G:callable P f=true){args:List D}{r:D}
  (h:Triple P c (zy1 (zvm P fn.results.toList r)) (zgu fn.ntmps args)):zan P f args r:=by
 refine⟨G,λw E vs J L=>?_⟩
 refine calls_of_wp F K ?_
 refine wp_mono (h E (.of w) _ _ w (Mods.init J L)) ?_
 rintro e a' w' ⟨de,st',β',M,O,H⟩
 cases e <;> cases de <;> simp only[exM] at M
 .obtain⟨v,Q,h2⟩:=zdq H O
  exact⟨H.defers,v,Q,v,rfl,H.below.below,h2⟩
 .exact O.elim
 .obtain⟨v,Q,h2⟩:=zdq H O
  exact⟨H.defers,v,Q,v,rfl,H.below.below,h2⟩
end
theorem z8r(inv:List Phon)(n:Int)(c:Cls)(F:inv.length<2^62):zan Tryz.prog 261 [.agg [invD inv],int n,.agg c.row] (.bool (zlj inv n c)):=by
 refine zab mixed Tryz.func261 rfl c_261 ?_
 simp+decide[Tryz.f261,int,Cls.row]
 refine zaa (by rfl) (by rfl) (zr0 inv n) (by simp) ?_
 by_cases hs:zgj inv n=true
 .have G:=hs
  simp only[zgj,Bool.and_eq_true,decide_eq_true_eq] at G;have H:n.toNat-1<inv.length:=by omega
  have e1:inv[n.toNat-1]?=some inv[n.toNat-1]:=List.getElem?_eq_getElem H
  have e2:¬n<1:=by omega
  simp+decide[invD,hs,H,e1,Phon.row,int,I64,zlj];omega
 .simp+decide[hs,zlj]
theorem z0u{inv:List Phon}{cs:List Cls}{ws:List Int}(h:ws.length=cs.length):zno inv cs ws=true↔∀ j (H:j<cs.length) (h2:j<ws.length),zlj inv ws[j] cs[j]=true:=by
 unfold zno
 rw[List.all_eq_true]
 constructor
 .intro G j H h2
  exact G (ws[j],cs[j]) (by rw[List.mem_iff_getElem];exact⟨j,by simp;omega,by simp⟩)
 .intro G x F
  obtain⟨j,E,e⟩:=List.mem_iff_getElem.mp F;rw[<-e];simp only[List.length_zip] at E;simp only[List.getElem_zip];exact G j (by omega) (by omega)
theorem yay(inv:List Phon)(P:inv.length<2^62)(r:Rule)(S:RuleFit r)(w:List Int)(W:w.length<2^40)(k:Nat)(hk:k<w.length):
  zan Tryz.prog 229 [.agg [invD inv],.agg r.row,ints w,int k] (.bool (zo9 inv r w k)):=by
 obtain⟨h1,h2,h3⟩:=S
 obtain⟨x,ex⟩:∃ x,w[k]=x:=⟨_,rfl⟩
 have e1:w[k]?=some x:=by rw[List.getElem?_eq_getElem hk,ex]
 have T:(k:Int)<w.length:=by omega
 have hH:=yd3 r.src x (by omega)
 obtain⟨R,hR⟩:∃ R,zo9 inv r w k=R:=⟨_,rfl⟩
 rw[hR]
 unfold zo9 at hR
 rw[e1,Option.getD_some] at hR
 obtain⟨src,dst,left,right,beg,fin⟩:=r
 simp only at h1 h2 h3 hH hR
 by_cases L:x∈src/\left.length<=k/\k+1+right.length<=w.length/\¬(beg=true/\left.length<k)/\¬(fin=true/\k+1+right.length<w.length)
 case neg=>
  refine zab mixed Tryz.func229 rfl c_229 ?_
  simp+decide[Tryz.f229,int,Rule.row,clsD,I64];refine⟨by omega,by omega,by omega,?_⟩
  simp+decide[ints,e1,ex,hk,T];refine zaa (by rfl) (by rfl) hH (by simp[int,ints]) ?_
  by_cases hx:x∈src
  case neg=>
   have:R=false:=by rw[<-hR];simp[hx]
   subst this;simp+decide[int,hx]
  by_cases hf:left.length<=k
  case neg=>
   have:R=false:=by rw[<-hR];simp[hf]
   subst this;have H:(k:Int)-left.length<0:=by omega
   simp+decide[int,hx,hf,H]
  have H:¬(k:Int)-left.length<0:=by omega
  by_cases ht:k+1+right.length<=w.length
  case neg=>
   have:R=false:=by rw[<-hR];simp[ht]
   subst this;have F:(w.length:Int)<k+1+right.length:=by omega
   simp+decide[int,hx,hf,H,ht,F]
  have F:¬(w.length:Int)<k+1+right.length:=by omega
  by_cases hb:beg=true/\left.length<k
  case pos=>
   obtain⟨X,Q⟩:=hb;subst X;have:R=false:=by rw[<-hR];simp[Q]
   subst this;have K:¬((k:Int)-left.length=0):=by omega
   simp+decide[int,hx,hf,H,ht,F,K,Q]
  by_cases he:fin=true/\k+1+right.length<w.length
  case pos=>
   obtain⟨Y,M⟩:=he;subst Y;have:R=false:=by rw[<-hR];simp[M]
   subst this;have J:¬((k:Int)+1+right.length=w.length):=by omega
   cases beg
   .simp+decide[int,hx,hf,H,ht,F,J,M]
   .have K:(k:Int)-left.length=0:=by simp at hb;omega
    simp+decide[int,hx,hf,H,ht,F,J,M,K]
  exact absurd ⟨hx,hf,ht,hb,he⟩ L
 obtain⟨hx,hf,ht,hb,he⟩:=L
 have Z:((w.take k).drop (k-left.length)).length=left.length:=by rw[List.length_drop,List.length_take];omega
 have A:((w.take (k+1+right.length)).drop (k+1)).length=right.length:=by rw[List.length_drop,List.length_take];omega
 have gL:∀ j (h1:j<left.length),∃ h2,((w.take k).drop (k-left.length))[j]'h2=w[k-left.length+j]'(by omega):=λj h1=>⟨by omega,by rw[List.getElem_drop,List.getElem_take]⟩
 have gR:∀ j (h1:j<right.length),∃ h2,((w.take (k+1+right.length)).drop (k+1))[j]'h2=w[k+1+j]'(by omega):=λj h1=>⟨by omega,by rw[List.getElem_drop,List.getElem_take]⟩
 have iL:=z0u (inv:=inv) Z
 have iR:=z0u (inv:=inv) A
 have Q:(beg&&decide (left.length<k))=false:=by
  cases beg
  .rfl
  .simp at hb;simp[hb]
 have M:(fin&&decide (k+1+right.length<w.length))=false:=by
  cases fin
  .rfl
  .simp at he;simp[he]
 rw[Q,M] at hR
 have hR:R=(zno inv left ((w.take k).drop (k-left.length))&&zno inv right ((w.take (k+1+right.length)).drop (k+1))):=by rw[<-hR];simp[hx,hf,ht]
 refine zyb Tryz.func229 rfl c_229 ?_
 let S1:St:={n:=103,next:=2,slots:=[(2,.d (ints w)),(3,.d (int k)),(4,.bp 0 0),(5,.bp 1 0),(9,.d (int ((k:Int)-left.length)))],own:=[(0,.box 24 [.d (invD inv)]),(1,.box 90 [.d (ints src),.d (ints dst),.d (clsD left),.d (clsD right),.d (.bool beg),.d (.bool fin)])]}
 let S2:St:={n:=103,next:=2,slots:=[(2,.d (ints w)),(3,.d (int k)),(4,.bp 0 0),(5,.bp 1 0)],own:=[(0,.box 24 [.d (invD inv)]),(1,.box 90 [.d (ints src),.d (ints dst),.d (clsD left),.d (clsD right),.d (.bool beg),.d (.bool fin)])]}
 have H:¬(k:Int)-left.length<0:=by omega
 have F:¬(w.length:Int)<k+1+right.length:=by omega
 refine zl5 mixed 3 S1 rfl ?_ ?_
 .simp+decide[Tryz.f229,zij,int,Rule.row,clsD,I64,S1]
  refine⟨by omega,by omega,by omega,?_⟩
  simp+decide[ints,e1,ex,hk,T];refine zaa (by rfl) (by rfl) hH (by simp[int,ints]) ?_
  have B:beg=true->(k:Int)-left.length=0:=by intro e;subst e;simp at hb;omega
  have V:fin=true->(k:Int)+1+right.length=w.length:=by intro e;subst e;simp at he;omega
  cases beg with
  |false=>
   cases fin with
   |false=>simp+decide[int,hx,hf,H,ht,F,cutK]
   |true=>
    have J:=V rfl;simp+decide[int,hx,hf,H,ht,F,J,cutK]
  |true=>
   have K:=B rfl;cases fin with
   |false=>simp+decide[int,hx,hf,H,ht,F,K,cutK]
   |true=>
    have J:=V rfl;simp+decide[int,hx,hf,H,ht,F,K,J,cutK]
 refine zas mixed ?_
 simp+decide[Tryz.f229,zik,int,ints,clsD,S1]
 refine zae mixed (λj:Nat=>{n:=103,next:=2,slots:=[(2,.d (ints w)),(3,.d (int k)),(4,.bp 0 0),(5,.bp 1 0),(9,.d (int ((k:Int)-left.length))),(62,.d (int left.length)),(63,.d (int j))],own:=[(0,.box 24 [.d (invD inv)]),(1,.box 90 [.d (ints src),.d (ints dst),.d (clsD left),.d (clsD right),.d (.bool beg),.d (.bool fin)])]})
  (λj=>j<=left.length/\∀ i (h1:i<left.length) (h2:i<j),zlj inv (w[k-left.length+i]'(by omega)) left[i]=true) (λj=>left.length-j) 0 (by simp) (by simp+decide[int,ints,clsD]) ?_
 intro j ⟨hj,hp⟩
 by_cases G:j<left.length
 .have E:(j:Int)<left.length:=by omega
  obtain⟨h2,gv⟩:=gL j G;have N:=hp;obtain⟨c,ec⟩:∃ c,left[j]=c:=⟨_,rfl⟩;have ec1:left[j]?=some c:=by rw[List.getElem?_eq_getElem G,ec]
  have O:k-left.length+j<w.length:=by omega
  obtain⟨y,ey⟩:∃ y,w[k-left.length+j]=y:=⟨_,rfl⟩;have ey1:w[k-left.length+j]?=some y:=by rw[List.getElem?_eq_getElem O,ey]
  have ix:(k:Int)-left.length+j=((k-left.length+j:Nat):Int):=by omega
  have hI:=z8r inv y c P;have ixT:((k:Int)-left.length+j).toNat=k-left.length+j:=by omega
  have ix0:0<=(k:Int)-left.length+j:=by omega
  have ix1:(k:Int)-left.length+j<w.length:=by omega
  simp+decide[int,ints,clsD,G,E,ec,ec1,ixT,ix0,ix1,ey1,O,ey,Cls.row,I64];refine⟨⟨by omega,by omega⟩,?_⟩
  refine zaa (by rfl) (by rfl) hI (by simp[int,Cls.row]) ?_
  cases hc:zlj inv y c with
  |false=>
   have:R=false:=by
    rw[hR,Bool.and_eq_false_iff];left
    rw[Bool.eq_false_iff,Ne,iL];intro hh;have:=hh j G h2
    rw[gv,ey,ec,hc] at this;cases this
   subst this;simp+decide[int]
  |true=>
   simp+decide[int];refine⟨⟨by omega,by omega⟩,j+1,⟨G,λi h1 h2=>?_⟩,by omega,by simp⟩
   rcases Nat.lt_succ_iff_lt_or_eq.mp h2 with h' | h'
   .exact hp i h1 h'
   .subst h'
    rw[ey,ec];exact hc
 .have:j=left.length:=by omega
  subst this;have C:zno inv left ((w.take k).drop (k-left.length))=true:=by
   rw[iL];intro i h1 h2;obtain⟨h3,gv⟩:=gL i h1;rw[gv];exact hp i h1 h1
  rw[C,Bool.true_and] at hR;simp+decide[int,ints,clsD];refine zae mixed (λj:Nat=>{n:=103,next:=2,slots:=[(2,.d (ints w)),(3,.d (int k)),(4,.bp 0 0),(5,.bp 1 0),(83,.d (int right.length)),(84,.d (int j))],own:=[(0,.box 24 [.d (invD inv)]),(1,.box 90 [.d (ints src),.d (ints dst),.d (clsD left),.d (clsD right),.d (.bool beg),.d (.bool fin)])]})
   (λj=>j<=right.length/\∀ i (h1:i<right.length) (h2:i<j),zlj inv (w[k+1+i]'(by omega)) right[i]=true) (λj=>right.length-j) 0 (by simp) (by simp+decide[int,ints,clsD]) ?_
  intro j ⟨hj,hp⟩;by_cases G:j<right.length
  .have E:(j:Int)<right.length:=by omega
   obtain⟨h2,gv⟩:=gR j G;obtain⟨c,ec⟩:∃ c,right[j]=c:=⟨_,rfl⟩;have ec1:right[j]?=some c:=by rw[List.getElem?_eq_getElem G,ec]
   have O:k+1+j<w.length:=by omega
   obtain⟨y,ey⟩:∃ y,w[k+1+j]=y:=⟨_,rfl⟩;have ey1:w[k+1+j]?=some y:=by rw[List.getElem?_eq_getElem O,ey]
   have hI:=z8r inv y c P;have ixT:((k:Int)+1+j).toNat=k+1+j:=by omega
   have ix0:0<=(k:Int)+1+j:=by omega
   have ix1:(k:Int)+1+j<w.length:=by omega
   simp+decide[int,ints,clsD,G,E,ec,ec1,ixT,ix0,ix1,ey1,O,ey,Cls.row,I64];refine⟨⟨by omega,by omega⟩,⟨by omega,by omega⟩,?_⟩
   refine zaa (by rfl) (by rfl) hI (by simp[int,Cls.row]) ?_
   cases hc:zlj inv y c with
   |false=>
    have:R=false:=by
     rw[hR,Bool.eq_false_iff,Ne,iR];intro hh;have:=hh j G h2
     rw[gv,ey,ec,hc] at this;cases this
    subst this;simp+decide[int]
   |true=>
    simp+decide[int];refine⟨⟨by omega,by omega⟩,j+1,⟨G,λi h1 h2=>?_⟩,by omega,by simp⟩
    rcases Nat.lt_succ_iff_lt_or_eq.mp h2 with h' | h'
    .exact hp i h1 h'
    .subst h'
     rw[ey,ec];exact hc
  .have:j=right.length:=by omega
   subst this;have I:zno inv right ((w.take (k+1+right.length)).drop (k+1))=true:=by
    rw[iR];intro i h1 h2;obtain⟨h3,gv⟩:=gR i h1;rw[gv];exact hp i h1 h1
   have:R=true:=by rw[hR,I]
   subst this;simp+decide[int,ints,clsD]
end Go.V
namespace Go.V
open Go Go.Proofs
structure RuleL(r:Rule):Prop extends RuleOk r where
 once:r.src.Nodup
def zlt(w:List Int):Prop:=∀ x∈w,x≠0
theorem z4q(inv:List Phon)(I:inv.length<2^62)(r:Rule)(N:RuleL r)(w:List Int)(P:w.length<2^40)(S:zlt w):
  zan Tryz.prog 196 [.agg [invD inv],.agg r.row,ints w] (ints (zj2 inv r w)):=by
 rw[<-zpa]
 refine zab mixed Tryz.func196 rfl c_196 ?_
 simp+decide[Tryz.f196,int,ints,Rule.row]
 refine zae mixed (λk:Nat=>{n:=55,next:=4,slots:=[(2,.d (ints w)),(3,.bp 0 0),(4,.bp 1 0),(7,.ar 3),(12,.d (int w.length)),(13,.d (int k))],own:=[(0,.box 24 [.d (invD inv)]),(1,.box 90 (r.row.map .d)),(3,.arr 3 1 ((zje inv r w k).map λn=>[int n]))],moved:=[3]})
  (λk=>k<=w.length) (λk=>w.length-k) 0 (by simp) (by simp+decide[int,ints,Rule.row,zje]) ?_
 intro k W
 by_cases H:k<w.length
 case neg=>
  have:k=w.length:=by omega
  subst this;simp+decide[int,ints]
 have G:(k:Int)<w.length:=by omega
 have hsn:=zmk (inv:=inv) (r:=r) H
 have X:=zk3 inv r w k W
 have hS:=yay inv I r N.toRuleFit w P k H
 have Q:=S w[k] (List.getElem_mem H)
 obtain⟨x,ex⟩:∃ x,w[k]=x:=⟨_,rfl⟩
 have e1:w[k]?=some x:=by rw[List.getElem?_eq_getElem H,ex]
 rw[ex] at hsn Q
 have F:=zx3 r.src x
 have M:x∈r.src->∃ j:Nat,∃ hj:j<r.src.length,idxL r.src x=j/\r.src[j]=x:=by
  intro hx;unfold idxL at F ⊢;cases hq:r.src.findIdx? (· = x) with
  |none=>rw[hq] at F;exact absurd (F.2 hx) (by decide)
  |some j=>
   rw[List.findIdx?_eq_some_iff_getElem] at hq;exact⟨j,hq.1,rfl,by simpa using hq.2.1⟩
 have K:zo9 inv r w k=true->x∈r.src:=by
  intro h;unfold zo9 at h;simp only[Bool.and_eq_true,decide_eq_true_eq] at h;have:=h.1.1.1.1.1.1
  rwa [e1,Option.getD_some] at this
 have Y:=N.dst
 have B:=N.src
 unfold segE at hsn
 simp+decide[int,ints,Rule.row,H,G,e1,ex,I64]
 refine zai.pure (by rfl) hS (by simp) ?_
 cases hb:zo9 inv r w k with
 |false=>
  rw[hb] at hsn;simp only[Bool.false_eq_true,if_false] at hsn;simp+decide[int,ints,Rule.row,I64,Q];exact⟨by omega,by unfold maxLen;omega,⟨by omega,by omega⟩,k+1,H,by omega,by omega,by rw[hsn];simp⟩
 |true=>
  rw[hb] at hsn;simp only[if_true] at hsn;obtain⟨j,hj,ej,exj⟩:=M (K hb);have Z:j<r.dst.length:=by omega
  obtain⟨y,ey⟩:∃ y,r.dst[j]=y:=⟨_,rfl⟩;have e2:r.dst[j]?=some y:=by rw[List.getElem?_eq_getElem Z,ey]
  rw[ej,Int.toNat_natCast,e2,Option.getD_some] at hsn;have C:(j:Int)<r.dst.length:=by omega
  simp+decide[int,ints,Rule.row,I64];refine zae mixed (λm:Nat=>{n:=55,next:=4,slots:=[(2,.d (ints w)),(3,.bp 0 0),(4,.bp 1 0),(7,.ar 3),(8,.d (int k)),(9,.d (int (if j<m then y else x))),(12,.d (int w.length)),(13,.d (int k)),(27,.d (int r.src.length)),(28,.d (int m))],own:=[(0,.box 24 [.d (invD inv)]),(1,.box 90 (r.row.map .d)),(3,.arr 3 1 ((zje inv r w k).map λn=>[int n]))],moved:=[3]})
   (λm=>m<=r.src.length) (λm=>r.src.length-m) 0 (by simp) (by simp+decide[int,ints,Rule.row]) ?_
  intro m hm;by_cases E:m<r.src.length
  .have J:(m:Int)<r.src.length:=by omega
   have T:m<r.dst.length:=by omega
   have L:(m:Int)<r.dst.length:=by omega
   obtain⟨z,ez⟩:∃ z,r.src[m]=z:=⟨_,rfl⟩;have ez1:r.src[m]?=some z:=by rw[List.getElem?_eq_getElem E,ez]
   by_cases V:m=j
   .subst V
    have O:z=x:=by rw[<-ez,exj]
    subst O;simp+decide[int,ints,Rule.row,I64,E,J,H,G,e1,ex,ez,ez1,T,L,e2,ey];exact⟨⟨by omega,by omega⟩,m+1,E,by omega,λh=>absurd h (by omega),by omega⟩
   .have O:¬z=x:=by
     intro h;have hp:=List.pairwise_iff_getElem.mp N.once;rcases Nat.lt_or_gt_of_ne V with h' | h'
     .exact hp m j E hj h' (by rw[ez,exj,h])
     .exact hp j m hj E h' (by rw[ez,exj,h])
    have A:(j<m+1)↔(j<m):=by omega
    simp+decide[int,ints,Rule.row,I64,E,J,H,G,e1,ex,ez,ez1,T,L,O];exact⟨⟨by omega,by omega⟩,m+1,E,by omega,by simp only[A],by omega⟩
  .have:m=r.src.length:=by omega
   subst this;by_cases hy:y=0
   .rw[if_pos hy,List.append_nil] at hsn
    simp+decide[int,ints,Rule.row,hj,hy,I64];exact⟨⟨by omega,by omega⟩,k+1,H,by omega,by omega,by rw[hsn]⟩
   .rw[if_neg hy] at hsn
    simp+decide[int,ints,Rule.row,hj,hy,I64];exact⟨by omega,by unfold maxLen;omega,⟨by omega,by omega⟩,k+1,H,by omega,by omega,by rw[hsn];simp⟩
theorem yl5{inv:List Phon}{r:Rule}{w:List Int}{k:Nat}{x:Int}(H:x≠0):zlt (segE inv r w k x):=by
 unfold segE zlt
 intro y G
 split at G
 .split at G
  .cases G
  .rename_i h;rw[List.mem_singleton] at G;rw[G];exact h
 .rw[List.mem_singleton] at G;rw[G];exact H
theorem yev{inv:List Phon}{r:Rule}{w:List Int}(H:zlt w):zlt (zj2 inv r w):=by
 intro y G
 unfold zj2 at G
 rw[List.mem_flatten] at G
 obtain⟨l,F,G⟩:=G
 rw[List.mem_map] at F
 obtain⟨⟨a,i⟩,E,rfl⟩:=F
 refine yl5 (H a ?_) y G
 exact(List.mem_zipIdx' E).2▸List.getElem_mem _
theorem z8s{inv:List Phon}:∀ (rs:List Rule) {w:List Int},zlt w->zlt (zgl inv rs w)
 | [],_,h=>h
 |r::rs,w,h=>by
  have:=z8s (inv:=inv) rs (yev (inv:=inv) (r:=r) h)
  exact this
theorem yaz(inv:List Phon)(K:inv.length<2^62)(rs:List Rule)(J:∀ r∈rs,RuleL r)(L:rs.length<2^40)(w:List Int)(M:w.length<2^40)(O:zlt w):
  zan Tryz.prog 141 [.agg [invD inv],zco rs,ints w] (ints (zgl inv rs w)):=by
 refine zab mixed Tryz.func141 rfl c_141 ?_
 simp+decide[Tryz.f141,int,ints,zco]
 refine zae mixed (λk:Nat=>{n:=22,next:=2,slots:=[(1,.d (zco rs)),(2,.d (ints (zgl inv (rs.take k) w))),(3,.bp 0 0),(9,.d (int rs.length)),(10,.d (int k))],own:=[(0,.box 24 [.d (invD inv)])],moved:=[]})
  (λk=>k<=rs.length) (λk=>rs.length-k) 0 (by simp) (by simp+decide[int,ints,zco,zgl]) ?_
 intro k Q
 by_cases H:k<rs.length
 case neg=>
  have:k=rs.length:=by omega
  subst this;rw[List.take_length];simp+decide[int,ints,zco]
 have G:(k:Int)<rs.length:=by omega
 have hsn:zgl inv (rs.take (k+1)) w=zj2 inv rs[k] (zgl inv (rs.take k) w):=by unfold zgl;rw[zao H,List.foldl_append];rfl
 have E:=zh1 inv (rs.take k) w
 have F:=z8s (inv:=inv) (rs.take k) O
 have T:=J rs[k] (List.getElem_mem H)
 obtain⟨r,er⟩:∃ r,rs[k]=r:=⟨_,rfl⟩
 have e1:rs[k]?=some r:=by rw[List.getElem?_eq_getElem H,er]
 rw[er] at hsn T
 generalize zgl inv (rs.take k) w=u at hsn E F
 have V:=z4q inv K r T u (by omega) F
 simp+decide[int,ints,zco,H,G,e1,er,I64,Rule.row]
 refine zaa (by rfl) (by rfl) V (by simp[int,ints,Rule.row]) ?_
 simp+decide[int,ints,zco]
 exact⟨⟨by omega,by omega⟩,k+1,H,by omega,by rw[hsn],by simp⟩
structure LangR(g:Lang):Prop extends LangL g where
 rulesL:∀ r∈g.rules,RuleL r
 nz:∀ e∈g.lex,∀ w∈e.forms,zlt w
theorem yi4{g:Lang}(G:LangR g)(ps:List Prt):zlt (zdz g.lex ps):=by
 intro x F
 unfold zdz at F
 rw[List.mem_flatMap] at F
 obtain⟨p,_,F⟩:=F
 split at F
 .rename_i hf
  unfold zhg at F hf;split at F
  .rename_i E
   simp only at F
   obtain⟨c1,c2,c3⟩:=E;have H:p.alt.toNat<(getE g.lex p.entry).1.forms.length:=by omega
   rw[List.getElem?_eq_getElem H,Option.getD_some] at F;exact G.nz _ (znm c1) _ (List.getElem_mem H) x F
  .cases F
 .cases F
theorem z0v(g:Lang)(E:LangR g)(ps:List Prt)(K:ps.length<2^20):zan Tryz.prog 83 [g.d,anaD ps] (.tup [ints (zlm g ps).1,int (zlm g ps).2]):=by
 have J:=znr g E.toLangL ps K
 have L:=zv7 g E.lex ps K
 have H:zef g ps=0->(zdz g.lex ps).length<2^40:=by
  intro h;unfold zef at h;repeat' split at h
  all_goals first | omega | skip
 have M:=λh=>yaz g.inv (by have:=E.inv;omega) g.rules E.rulesL E.rules.2 (zdz g.lex ps) (H h) (yi4 E ps)
 have G:=zh1 g.inv g.rules (zdz g.lex ps)
 unfold zlm
 generalize zef g ps=R at J M H ⊢
 refine zab mixed Tryz.func83 rfl c_83 ?_
 simp+decide[Tryz.f83,int,Lang.d,anaD,zaz]
 refine zai.pure (by rfl) J (by simp[Lang.d,anaD,zaz,int]) ?_
 by_cases O:R=0
 .subst O
  have M:=M rfl;have H:=H rfl;generalize zgl g.inv g.rules (zdz g.lex ps)=v at M G ⊢;simp+decide[int,Lang.d,zaz];refine zaa (by rfl) (by rfl) L (by simp[Lang.d,anaD,zaz]) ?_
  simp+decide[int,Lang.d,zaz,ints];refine zaa (by rfl) (by rfl) M (by simp[Lang.d,anaD,zaz,ints]) ?_
  by_cases Q:v.length=0
  .simp+decide[int,Lang.d,zaz,ints,Q,List.length_eq_zero_iff.mp Q]
  .have F:v≠[]:=λh=>Q (by rw[h];rfl)
   simp+decide[int,Lang.d,zaz,ints,Q,F]
 .simp+decide[int,ints,O]
theorem zj3(a b:List Int)(L:a.length<2^62)(M:b.length<2^62):zan Tryz.prog 84 [ints a,ints b] (.bool (decide (a=b))):=by
 refine zab mixed Tryz.func84 rfl c_84 ?_
 by_cases O:a.length=b.length
 case neg=>
  have:¬a=b:=λh=>O (by rw[h])
  have E:¬(a.length:Int)=b.length:=by omega
  simp+decide[Tryz.f84,ints,int,O,E,this]
 have E:(a.length:Int)=b.length:=by omega
 simp+decide[Tryz.f84,ints,int,O,E]
 refine zae mixed (λk:Nat=>{n:=26,next:=0,slots:=[(0,.d (ints a)),(1,.d (ints b)),(12,.d (int b.length)),(13,.d (int k))],own:=[],moved:=[]})
  (λk=>k<=a.length/\a.take k=b.take k) (λk=>a.length-k) 0 (by simp) (by simp+decide[int,ints,E]) ?_
 intro k ⟨Q,T⟩
 by_cases H:k<a.length
 case neg=>
  have:k=a.length:=by omega
  subst this;rw[List.take_length,O,List.take_length] at T;subst T;simp+decide[int,ints]
 have G:(k:Int)<a.length:=by omega
 have K:k<b.length:=by omega
 have F:(k:Int)<b.length:=by omega
 obtain⟨x,ex⟩:∃ x,a[k]=x:=⟨_,rfl⟩
 obtain⟨y,ey⟩:∃ y,b[k]=y:=⟨_,rfl⟩
 have ex1:a[k]?=some x:=by rw[List.getElem?_eq_getElem H,ex]
 have ey1:b[k]?=some y:=by rw[List.getElem?_eq_getElem K,ey]
 by_cases J:x=y
 .subst J
  simp+decide[int,ints,H,G,K,F,ex,ey,ex1,ey1];exact⟨⟨by omega,by omega⟩,k+1,⟨H,by rw[zao H,zao K,T,ex,ey]⟩,by omega,by omega⟩
 .have:¬a=b:=by
   intro h;subst h;exact J (by rw[<-ex,<-ey])
  simp+decide[int,ints,H,G,K,F,ex,ey,ex1,ey1,J,this]
def licE(g:Lang)(w:List Int)(ps:List Prt):Bool:=decide ((zlm g ps).2=0/\(zlm g ps).1=w)
theorem yew{g:Lang}(ps:List Prt):(zlm g ps).1.length<=(zdz g.lex ps).length:=by
 unfold zlm
 have:=zh1 g.inv g.rules (zdz g.lex ps)
 repeat' split
 all_goals simp;try omega
theorem zvc(g:Lang)(H:LangR g)(w:List Int)(G:w.length<2^40)(ps:List Prt)(F:ps.length<2^20):zan Tryz.prog 35 [g.d,ints w,anaD ps] (.bool (licE g w ps)):=by
 have E:=z0v g H ps F
 have K:=yew (g:=g) ps
 have J:=zhy H.lex ps
 have L:=zj3 (zlm g ps).1 w (by omega) (by omega)
 unfold licE
 generalize zlm g ps=q at E L ⊢
 obtain⟨v,e⟩:=q
 refine zab mixed Tryz.func35 rfl c_35 ?_
 simp+decide[Tryz.f35,int,Lang.d,anaD,zaz]
 refine zai.pure (by rfl) E (by simp[Lang.d,anaD,zaz,int]) ?_
 by_cases M:e=0
 .subst M
  simp+decide[int,ints];refine zai.pure (by rfl) L (by simp[ints]) ?_
  simp+decide[int,ints]
 .simp+decide[int,ints,M]
end Go.V

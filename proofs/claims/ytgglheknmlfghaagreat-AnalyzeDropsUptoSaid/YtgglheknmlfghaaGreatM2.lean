/- Contracts and plain laws of this seat: part M2. It needs no conditions. -/
import Derived.Test.YtgglheknmlfghaaGreatM1
import Derived.Test.YtgglheknmlfghaaGreatW1
set_option linter.unusedVariables false
set_option linter.unusedSimpArgs false
set_option linter.unusedSectionVars false
set_option maxRecDepth 100000
namespace Go.V
open Go Go.Proofs
theorem zas {α:Type} {l:List α} {k:Nat} (h:k<l.length):l.take (k+1)=l.take k++[l[k]]:=by
 rw [List.take_succ_eq_append_getElem h]
def u32 (m:Nat):D:=.int .u32 m
def hasS (m:Nat) (q:Int):Bool:=m.testBit q.toNat
def zjb (m:Nat) (q:Int):Nat:=m ||| (1 <<< q.toNat)
theorem z9p : ∀ (m:Fin 8) (q:Fin 3),(decide (zhp .and .u32 (zjj .shr .u32 (m.val:Int) (q.val:Int)) 1=1))=m.val.testBit q.val:=by decide +kernel
theorem z4c : ∀ (m:Fin 8) (q:Fin 3),zhp .or .u32 (m.val:Int) (zjj .shl .u32 1 (q.val:Int))=((m.val ||| (1 <<< q.val):Nat):Int):=by decide +kernel
theorem ycf : ∀ (m:Fin 8) (q:Fin 3),m.val ||| (1 <<< q.val)<8:=by decide +kernel
theorem z4d {m:Nat} {q:Int} (hm:m<8) (h0:0≤q) (h1:q<3):(decide (zhp .and .u32 (zjj .shr .u32 (m:Int) q) 1=1))=hasS m q:=by
 have:=z9p ⟨m,hm⟩ ⟨q.toNat,by omega⟩
 simp only [show ((q.toNat:Nat):Int)=q by omega] at this
 exact this
theorem zls {m:Nat} {q:Int} (hm:m<8) (h0:0≤q) (h1:q<3):zhp .or .u32 (m:Int) (zjj .shl .u32 1 q)=((zjb m q:Nat):Int):=by
 have:=z4c ⟨m,hm⟩ ⟨q.toNat,by omega⟩
 simp only [show ((q.toNat:Nat):Int)=q by omega] at this
 exact this
theorem zzw {m:Nat} {q:Int} (hm:m<8) (h0:0≤q) (h1:q<3):zjb m q<8:=ycf ⟨m,hm⟩ ⟨q.toNat,by omega⟩
abbrev ycg (n:Nett) (m:Nat):D:=.fn 187 [.ptr n.cells,.ptr [u32 m]]
def zde (m:Nat) (c:Int) (out:Nat) (s:Stp):Nat:=if hasS m s.src=true∧s.cls=c then zjb out s.dst else out
def za1 (l:List Stp) (m:Nat) (c:Int):Nat:=l.foldl (zde m c) 0
def zxo (l:List Stp):Prop:=∀ s∈l,(0≤s.src∧s.src<3)∧(0≤s.dst∧s.dst<3)
theorem zsn {m:Nat} {c:Int} : ∀ {l:List Stp} {out:Nat},zxo l→out<8→l.foldl (zde m c) out<8
 | [],out,_,h=>h
 | s::l,out,hl,h=>by
  rw [List.foldl_cons];refine zsn (fun x hx=>hl x (by simp [hx])) ?_
  unfold zde;split
  ·have:=(hl s (by simp)).2;exact zzw h this.1 this.2
  ·exact h
theorem zga {l:List Stp} (h:zxo l) (m:Nat) (c:Int):za1 l m c<8:=zsn h (by omega)
def zzx (n:Nett) (m:Nat):List Sym:=[.junk,.junk,.junk,.junk,.junk,.bp 2 0,.junk,.bp 1 0,.junk,.junk,.junk,.d (ycg n m),.junk,.junk,.junk,.junk,.junk,.junk,.junk,.junk,.junk,.junk]
@[simp] theorem ych (n:Nett) (m:Nat):Sym.los 3 (zzx n m):=by simp [zzx,Sym.los,Sym.lo]
end Go.V
namespace Go.V
open Go Go.Proofs
def runS (l:List Stp) (cs:List Int):Nat:=cs.foldl (fun m c=>za1 l m c) 1
def zb1 (l:List Int):Nat:=l.foldl zjb 0
theorem zhr : ∀ (l:List Int) (m:Nat),(∀ q∈l,0≤q∧q<3)→m<8→l.foldl zjb m<8
 | [],m,_,hm=>hm
 | q::l,m,h,hm=>by
  rw [List.foldl_cons];exact zhr l _ (fun x hx=>h x (by simp [hx])) (zzw hm (h q (by simp)).1 (h q (by simp)).2)
def yd5 (n:Nett):Prop:=zxo n.steps∧(∀ q∈n.final,0≤q∧q<3)∧n.steps.length<2^40∧n.final.length<2^40
def zns (n:Nett) (cs:List Int):Bool:=decide (runS n.steps cs &&& zb1 n.final≠0)
theorem z9q (e:Ent) (id:Int):za2 Tryz.prog 144 [.agg e.row,.ptr [int id]] (.bool (decide (e.id=id))):=by
 refine zab mixed Tryz.func144 rfl call_144 ?_
 simp +decide [Tryz.f144,Ent.row,int]
theorem z4e (l:List Ent) (id:Int) (hl:l.length<2^62):za2 Tryz.prog 143 [lexD l,.fn 144 [.ptr [int id]]] (int (zdk l id)):=by
 refine zab mixed Tryz.func143 rfl call_143 ?_
 simp [Tryz.f143,lexD]
 refine zaf mixed (fun k:Nat=>{n:=19,next:=0,slots:=[(0,.d (lexD l)),(1,.d (.fn 144 [.ptr [int id]])),(6,.d (lexD l)),(7,.d (.int .i64 l.length)),(8,.d (.int .i64 k))],own:=[]})
  (fun k=>k≤l.length∧∀ e∈l.take k,e.id≠id) (fun k=>l.length-k) 0 (by simp) (by simp [lexD]) ?_
 intro k ⟨hk,hp⟩
 by_cases hlt:k<l.length
 ·have hlt':(k:Int)<l.length:=by omega
  obtain ⟨e,ee⟩ : ∃ e,l[k]=e:=⟨_,rfl⟩;have e1:l[k]?=some e:=by rw [List.getElem?_eq_getElem hlt,ee]
  simp +decide [lexD,Ent.row,int,e1,ee,hlt,hlt',I64];refine zam.pure (by rfl) (z9q e id) (by simp [Ent.row,int]) ?_
  by_cases he:e.id=id
  ·have:=zn5 hlt hp (by rw [ee];exact he)
   simp +decide [lexD,int,he,I64,zdk,this]
  ·simp +decide [lexD,int,he,I64]
   exact ⟨⟨by omega,by omega⟩,k+1,⟨hlt,zir hlt hp (by rw [ee];exact he)⟩,by omega,by omega⟩
 ·have:k=l.length:=by omega
  subst this;simp +decide [lexD,int];simp [zdk,zlr (by simpa using hp)]
theorem zcv (l:List Ent) (id:Int):(zdk l id<0∧getE l id=(Ent.zero,false))∨∃ k:Nat,∃ h:k<l.length,zdk l id=k∧getE l id=(l[k],true):=by
 unfold zdk getE
 cases h:l.findIdx? (·.id=id) with
 | none=>
  left
  rw [List.findIdx?_eq_none_iff] at h;have:l.find? (·.id=id)=none:=by rw [List.find?_eq_none];intro x hx;simpa using h x hx
  rw [this];exact ⟨by simp,rfl⟩
 | some k=>
  right
  rw [List.findIdx?_eq_some_iff_getElem] at h;obtain ⟨h1,h2,h3⟩:=h;refine ⟨k,h1,rfl,?_⟩
  have:l.find? (·.id=id)=some l[k]:=by
   rw [List.find?_eq_some_iff_getElem];exact ⟨h2,k,h1,rfl,fun j hj=>by simpa using h3 j hj⟩
  rw [this]
theorem z4f (l:List Ent) (id:Int) (hl:l.length<2^40):za2 Tryz.prog 99 [lexD l,int id] (.tup [.agg (getE l id).1.row,.bool (getE l id).2]):=by
 refine zab mixed Tryz.func99 rfl call_99 ?_
 simp +decide [Tryz.f99,lexD,int]
 refine zam.pure (by rfl) (z4e l id (by omega)) (fun _=>rfl) ?_
 rcases zcv l id with ⟨h1,h2⟩ | ⟨k,hk,h1,h2⟩
 ·rw [h2]
  simp +decide [lexD,int,h1,Ent.zero,Ent.row,ints,zbe,zbt,lnkD,rfD]
 ·rw [h2,h1]
  have hk0:¬(k:Int)<0:=by omega
  have hk':(k:Int)<l.length:=by omega
  simp +decide [lexD,int,hk0,hk,hk',Ent.row,ints,zbe,zbt,lnkD,rfD]
end Go.V
namespace Go.V
open Go Go.Proofs
def wayR (l:List Ent):Nat→Int→Option (List Sens)
 | 0,_=>none
 | f+1,id=>if (getE l id).2=true then (if (getE l id).1.senses≠[] then some (getE l id).1.senses else if (getE l id).1.main=0 then none else wayR l f (getE l id).1.main) else none
def zcf (l:List Ent) (id:Int):List Sens:=(wayR l (l.length+1) id).getD []
theorem zup (l:List Sens) (hl:l.length<2^40):za2 Tryz.prog 139 [zbt l] (zbt l):=by
 refine zab mixed Tryz.func139 rfl call_139 ?_
 simp +decide [Tryz.f139,zbt,maxLen]
 exact ⟨fun a _=>rfl,by omega,by omega⟩
def zcp:List Sym:=[.junk,.junk,.junk,.junk,.bp 1 0,.junk,.junk,.junk,.fn 163 [.bp 2 0,.bp 3 0],.junk,.junk,.junk,.junk,.junk,.junk,.junk,.junk]
@[simp] theorem yci:Sym.los 4 zcp:=by simp [zcp,Sym.los,Sym.lo]
@[simp] theorem ybu:rens (rho' [0,1,2,3] 5) zcp=zcp:=rfl
noncomputable def zdl (s:LoopState) (pd:Option Code):Obj':=.raw (.lp #[9] (rAs Tryz.f93) (rBd Tryz.f93) s pd) zcp
noncomputable def zc8 (l:List Ent) (id:Int):List (Nat×Obj'):=
 [(0,zdl .ready none),(1,.box 55 [.nils]),(2,.box 34 [.d (lexD l)]),(3,.box 3 [.d (int id)])]
noncomputable def zso (l:List Ent) (id:Int) (ss:List Sens):List (Nat×Obj'):=
 [(0,zdl .done (some .ret)),(1,.box 55 [.d (zbt ss)]),(2,.box 34 [.d (lexD l)]),(3,.box 3 [.d (int id)])]
theorem z1g (l:List Ent) (id:Int) (e:Ent) (he:e.senses=[]) :
  zsc Tryz.prog 0 [.d (.agg e.row)] (zc8 l id) 4 (.d (.bool true)) 4 (zc8 l id) []:=by
 refine z02 (cells:=zcp) (ps:=#[9]) (aS := rAs Tryz.f93) (bd:=rBd Tryz.f93) rfl (by simp) (by simp [zcp]) (by omega) (by simp [Sym.los,Sym.lo]) ?_
 simp +decide [zc8,zdl,zcp,rAs,rBd,zfv,Tryz.f93,Ent.row,int,he,zbt]
theorem z1h (l:List Ent) (id:Int) (e:Ent) (he:e.senses≠[]) (hl:e.senses.length<2^40) :
  zsc Tryz.prog 0 [.d (.agg e.row)] (zc8 l id) 4 (.d (.bool false)) 4 (zso l id e.senses) []:=by
 refine z02 (cells:=zcp) (ps:=#[9]) (aS := rAs Tryz.f93) (bd:=rBd Tryz.f93) rfl (by simp) (by simp [zcp]) (by omega) (by simp [Sym.los,Sym.lo]) ?_
 have hC:=zup e.senses hl
 have hp:(0:Int)<e.senses.length:=by
  have:e.senses.length≠0:=fun e2=>he (List.eq_nil_of_length_eq_zero e2)
  omega
 simp +decide [zc8,zso,zdl,zcp,rAs,rBd,zfv,Tryz.f93,Ent.row,int,he,hp,zbt]
 intro _
 refine zam.pure (by rfl) hC (by simp [zbt]) ?_
 simp +decide [zc8,zso,zdl,zcp,int,zbt]
noncomputable def zmr:Option (List Sens)→List (Nat×Obj')
 | none=>[(0,zdl .ready none),(1,.box 55 [.nils])]
 | some ss=>[(0,zdl .done (some .ret)),(1,.box 55 [.d (zbt ss)])]
set_option maxHeartbeats 4000000 in
theorem z9r (l:List Ent) (id:Int) (hl:l.length<2^40) (hs : ∀ e∈l,e.senses.length<2^40) :
  zcr Tryz.prog 163 [.yd 0,.bp 2 0,.bp 3 0] (zc8 l id) 4 (.d (.tup [])) 4 (zmr (wayR l (l.length+1) id)) []:=by
 refine zcr.yfg (zbg mixed Tryz.func163 rfl call_163 (by simp [Sym.los,Sym.lo]) ?_)
 simp +decide [Tryz.f163,zc8,lexD,int,I64]
 refine ⟨⟨by omega,by omega⟩,?_⟩
 refine zbp mixed (fun x:Nat×Int=>{n:=33,next:=4,base:=4,slots:=[(0,.yd 0),(1,.bp 2 0),(2,.bp 3 0),(8,.d (int (l.length+1))),(9,.d (int x.1))],own:=zc8 l x.2})
  (fun x=>x.1≤l.length+1∧wayR l (l.length+1-x.1) x.2=wayR l (l.length+1) id) (fun x=>l.length+1-x.1) (0,id) (by simp) (by simp +decide [int,lexD,zc8,zdl]) ?_
 rintro ⟨k,i⟩ ⟨hk,hw⟩
 simp only at hk hw
 refine zt1 ?_
 by_cases hlt:k<l.length+1
 case neg=>
  have:k=l.length+1:=by omega
  subst this;rw [Nat.sub_self] at hw;rw [← hw];simp +decide [int,lexD,zc8,zdl,wayR,zmr]
 have hlt':(k:Int)<l.length+1:=by omega
 rw [show l.length+1-k=(l.length-k)+1 by omega,wayR] at hw
 have hG:=z4f l i hl
 have hmem:(getE l i).2=true→(getE l i).1∈l:=by
  rcases zcv l i with ⟨_,h2⟩ | ⟨j,hj,_,h2⟩
  ·rw [h2];intro h;cases h
  ·rw [h2];intro _;exact List.getElem_mem hj
 generalize getE l i=g at hw hG hmem
 obtain ⟨e,ok⟩:=g
 simp only at hw hG hmem
 simp +decide [int,lexD,zc8,zdl,hlt,hlt']
 refine zam.pure (by rfl) hG (by simp [lexD,int]) ?_
 cases ok with
 | false=>
  simp only [Bool.false_eq_true,if_false] at hw;rw [← hw];simp +decide [int,lexD,zc8,zdl,zmr,Ent.row,hlt,hlt']
 | true=>
  simp only [if_true] at hw;have hem:=hmem rfl;by_cases hes:e.senses=[]
  ·have hR:=z1g l i e hes
   rw [if_neg (by simp [hes])] at hw
   simp +decide [int,lexD,zc8,zdl,Ent.row,hlt,hlt'];refine zr8.to 0 [0,1,2,3] [.d (.agg e.row)] (zc8 l i) (by simp [rho]) (by simp [Ent.row,int]) (by simp [Sym.los,Sym.lo]) (by simp [zc8,zdl,zcp,lexD,int];rfl) hR ?_
   by_cases hm0:e.main=0
   ·rw [if_pos hm0] at hw
    rw [← hw];simp +decide [int,lexD,zc8,zdl,zmr,Ent.row,hlt,hlt',hm0]
   ·rw [if_neg hm0] at hw
    simp +decide [int,lexD,zc8,zdl,zmr,Ent.row,hlt,hlt',hm0];exact ⟨by unfold I64;omega,k+1,e.main,⟨by omega,by rw [show l.length+1-(k+1)=l.length-k by omega];exact hw⟩,by omega,by omega,rfl⟩
  ·have hR:=z1h l i e hes (hs e hem)
   rw [if_pos hes] at hw;rw [← hw];simp +decide [int,lexD,zc8,zdl,Ent.row,hlt,hlt'];refine zr8.to 0 [0,1,2,3] [.d (.agg e.row)] (zc8 l i) (by simp [rho]) (by simp [Ent.row,int]) (by simp [Sym.los,Sym.lo]) (by simp [zc8,zdl,zcp,lexD,int];rfl) hR ?_
   simp +decide [int,lexD,zso,zdl,zmr,Ent.row,hlt,hlt']
theorem yd6 (l:List Ent) (id:Int):zcr Tryz.prog 138 [.d (lexD l),.d (int id)] [] 0 (.fn 163 [.bp 0 0,.bp 1 0]) 2 [(0,.box 34 [.d (lexD l)]),(1,.box 3 [.d (int id)])] []:=by
 refine zbg mixed Tryz.func138 rfl call_138 (by simp [Sym.los,Sym.lo]) ?_
 simp +decide [Tryz.f138,lexD,int]
set_option maxHeartbeats 2000000 in
theorem zuq (l:List Ent) (id:Int) (hl:l.length<2^40) (hs : ∀ e∈l,e.senses.length<2^40):za2 Tryz.prog 93 [lexD l,int id] (zbt (zcf l id)):=by
 refine zqw Tryz.func93 rfl call_93 ?_
 refine z8n mixed 1 {n:=17,next:=1,slots:=[(0,.d (lexD l)),(1,.d (int id)),(4,.bp 0 0)],own:=[(0,.box 55 [.nils])]} rfl ?_ ?_
 ·simp +decide [Tryz.f93,zfi,lexD,int]
 simp only [zgv]
 refine zw2 (z8n mixed 1 {n:=17,next:=3,slots:=[(4,.bp 0 0),(8,.fn 163 [.bp 1 0,.bp 2 0])],own:=[(0,.box 55 [.nils]),(1,.box 34 [.d (lexD l)]),(2,.box 3 [.d (int id)])]} rfl ?_ ?_)
 ·simp +decide [zfi,lexD,int]
  refine zam.mut [] [.d (lexD l),.d (int id)] [] (by rfl) (by simp [lexD,int]) (by simp) (by simp) (yd6 l id) ?_
  simp +decide [lexD,int]
 simp only [zgv]
 refine zt5 (zt4 (k:=0) (ids:=[3,0,1,2]) (args0:=[.yd 0,.bp 2 0,.bp 3 0]) (own0:=zc8 l id) (by rfl) (by simp [rho]) (by simp) (by simp [Sym.los,Sym.lo]) ?_ (z9r l id hl hs) ?_)
 ·simp +decide [zc8,zdl,zcp,rAs,rBd,zfv,Tryz.f93,int,lexD]
 ·unfold zcf
  cases wayR l (l.length+1) id with
  | none=>
   simp +decide [zmr,zdl,int,lexD,zbt]
  | some ss=>
   simp +decide [zmr,zdl,int,lexD]
end Go.V
namespace Go.V
open Go Go.Proofs
structure LexFit (l:List Ent):Prop where
 len:l.length<2^40
 alts : ∀ e∈l,e.alts.length<2^39
 form : ∀ e∈l,∀ w∈e.forms,w.length<2^20
 senses : ∀ e∈l,e.senses.length<2^40
theorem zkk {l:List Ent} {id:Int} (h:(getE l id).2=true):(getE l id).1∈l:=by
 rcases zcv l id with ⟨_,h2⟩ | ⟨j,hj,_,h2⟩
 ·rw [h2] at h;cases h
 ·rw [h2];exact List.getElem_mem hj
theorem z4g (e:Ent) (h:e.alts.length<2^40):za2 Tryz.prog 104 [.agg e.row] (zbe e.forms):=by
 refine zab mixed Tryz.func104 rfl call_104 ?_
 simp [Tryz.f104,Ent.row,zbe,ints,Ent.forms,maxLen]
 omega
def zak:D→List Sym
 | .agg l=>l.map .d
 | _=>[]
def zur (l:List Ent) (p:Prt):Ent×List Int×Bool:=
 if (getE l p.entry).2=true∧0≤p.alt∧p.alt<(getE l p.entry).1.forms.length then ((getE l p.entry).1,((getE l p.entry).1.forms[p.alt.toNat]?.getD []),true) else ((getE l p.entry).1,[],false)
end Go.V
namespace Go.V
open Go Go.Proofs
def zba (l:List Ent) (ps:List Prt):List Int:=ps.flatMap fun p=>if (zur l p).2.2=true then [(zur l p).1.cls] else []
def zb3 (l:List Ent) (ps:List Prt):List Int:=ps.flatMap fun p=>if (zur l p).2.2=true then (zur l p).2.1 else []
end Go.V
namespace Go.V
open Go Go.Proofs
def idxL (l:List Int) (x:Int):Int:=match l.findIdx? (· = x) with
 | some k=>k
 | none=>-1
theorem zzy (l:List Int) (x:Int):(0≤idxL l x↔x∈l):=by
 unfold idxL
 cases h:l.findIdx? (· = x) with
 | none=>
  rw [List.findIdx?_eq_none_iff] at h;constructor
  ·intro e;change (0:Int)≤-1 at e;omega
  ·intro e;have:=h x e;simp at this
 | some k=>
  rw [List.findIdx?_eq_some_iff_getElem] at h;obtain ⟨h1,h2,_⟩:=h;constructor
  ·intro _;have h3:l[k]=x:=by simpa using h2
   rw [← h3];exact List.getElem_mem h1
  ·intro _;exact Int.natCast_nonneg k
theorem zz0 (l:List Int) (x:Int) (hl:l.length<2^62):za2 Tryz.prog 148 [ints l,int x] (int (idxL l x)):=by
 refine zab mixed Tryz.func148 rfl call_148 ?_
 simp [Tryz.f148,ints]
 refine zaf mixed (fun k:Nat=>{n:=19,next:=0,slots:=[(0,.d (ints l)),(1,.d (int x)),(6,.d (ints l)),(7,.d (.int .i64 l.length)),(8,.d (.int .i64 k))],own:=[]})
  (fun k=>k≤l.length∧∀ y∈l.take k,y≠x) (fun k=>l.length-k) 0 (by simp) (by simp [ints,int]) ?_
 intro k ⟨hk,hp⟩
 by_cases hlt:k<l.length
 ·have hlt':(k:Int)<l.length:=by omega
  obtain ⟨c,ec⟩ : ∃ c,l[k]=c:=⟨_,rfl⟩;have e1:l[k]?=some c:=by rw [List.getElem?_eq_getElem hlt,ec]
  by_cases hx:c=x
  ·have hf:l.findIdx? (· = x)=some k:=by
    rw [List.findIdx?_eq_some_iff_getElem];refine ⟨hlt,by simpa [ec] using hx,fun j hj=>?_⟩
    have:=hp l[j] (by rw [List.mem_take_iff_getElem];exact ⟨j,by omega,rfl⟩)
    simpa using this
   subst hx;simp +decide [ints,int,e1,ec,hlt,hlt',I64,idxL,hf]
  ·have hx':¬ x=c:=fun e=>hx e.symm
   simp +decide [ints,int,e1,ec,hlt,hlt',hx,hx',I64];exact ⟨⟨by omega,by omega⟩,k+1,⟨hlt,zir hlt hp (by rw [ec];exact hx)⟩,by omega,by omega⟩
 ·have:k=l.length:=by omega
  subst this;have hf:l.findIdx? (· = x)=none:=by
   rw [List.findIdx?_eq_none_iff];intro y hy;have:=hp y (by rwa [List.take_length]);simpa using this
  simp +decide [ints,int,idxL,hf]
theorem zus (l:List Int) (x:Int) (hl:l.length<2^62):za2 Tryz.prog 180 [ints l,int x] (.bool (decide (x∈l))):=by
 refine zab mixed Tryz.func180 rfl call_180 ?_
 simp +decide [Tryz.f180,int,ints]
 refine zam.pure (by rfl) (zz0 l x hl) (fun _=>rfl) ?_
 have:=zzy l x
 simp +decide [int,this]
theorem z4h (l:List Int) (x:Int) (hl:l.length<2^62):za2 Tryz.prog 167 [ints l,int x] (.bool (decide (x∈l))):=by
 refine zab mixed Tryz.func167 rfl call_167 ?_
 simp +decide [Tryz.f167,int,ints]
 refine zam.pure (by rfl) (zus l x hl) (by simp) ?_
 simp +decide [int]
def ctxD (inv:List Phon) (cs:List Cls):D:=.agg [invD inv,clsD cs]
theorem z9s (inv:List Phon) (cs:List Cls) (k:Nat) (hk:k<cs.length) (n:Int) (hl:inv.length<2^62):za2 Tryz.prog 169 [ctxD inv cs,int k,int n] (.bool (zum inv n cs[k])):=by
 have hk':(k:Int)<cs.length:=by omega
 obtain ⟨c,ec⟩ : ∃ c,cs[k]=c:=⟨_,rfl⟩
 have e1:cs[k]?=some c:=by rw [List.getElem?_eq_getElem hk,ec]
 rw [ec]
 refine zab mixed Tryz.func169 rfl call_169 ?_
 simp +decide [Tryz.f169,int,ctxD,clsD,Cls.row,hk,hk',e1,ec]
 refine zah (by rfl) (by rfl) (ye8 inv n c hl) (by simp [int,Cls.row]) ?_
 simp +decide [int]
def zut (inv:List Phon) (cs:List Cls) (ws:List Int):Bool:=(ws.zip cs).all fun x=>zum inv x.1 x.2
theorem z9t {α β:Type} {a:List α} {b:List β} {k:Nat} (h:k<a.length) (h':k<b.length):(a.take (k+1)).zip (b.take (k+1))=(a.take k).zip (b.take k)++[(a[k],b[k])]:=by
 rw [zas h,zas h',List.zip_append (by rw [List.length_take,List.length_take];omega)];rfl
theorem z4i (inv:List Phon) (cs:List Cls) (ws:List Int) (hw:ws.length=cs.length) (hl:inv.length<2^62) (hc:cs.length<2^62) :
  za2 Tryz.prog 168 [.fn 169 [],ctxD inv cs,ints ws] (.bool (zut inv cs ws)):=by
 refine zab mixed Tryz.func168 rfl call_168 ?_
 simp +decide [Tryz.f168,int,ctxD,ints]
 refine zaf mixed (fun k:Nat=>{n:=23,next:=1,slots:=[(0,.d (.fn 169 [])),(4,.bp 0 0),(9,.d (ints ws)),(10,.d (.int .i64 ws.length)),(11,.d (.int .i64 k))],own:=[(0,.box 212 [.d (invD inv),.d (clsD cs)])]})
  (fun k=>k≤ws.length∧((ws.take k).zip (cs.take k)).all (fun x=>zum inv x.1 x.2)=true) (fun k=>ws.length-k) 0 (by simp) (by simp [ints,int]) ?_
 intro k ⟨hk,hp⟩
 by_cases hlt:k<ws.length
 ·have hlt':(k:Int)<ws.length:=by omega
  have hlc:k<cs.length:=by omega
  have hI:=z9s inv cs k hlc ws[k] hl;have hsn:=z9t hlt hlc;obtain ⟨c,ec⟩ : ∃ c,ws[k]=c:=⟨_,rfl⟩;have e1:ws[k]?=some c:=by rw [List.getElem?_eq_getElem hlt,ec]
  rw [ec] at hI hsn;simp +decide [ints,int,e1,ec,hlt,hlt',I64];refine zam.pure (by rfl) hI (by simp [ctxD,int]) ?_
  cases hb:zum inv c cs[k] with
  | true=>
   simp +decide [ints,int,I64];refine ⟨⟨by omega,by omega⟩,k+1,⟨hlt,?_⟩,by omega,by omega⟩
   intro x y hxy;have hall:((ws.take (k+1)).zip (cs.take (k+1))).all (fun x=>zum inv x.1 x.2)=true:=by rw [hsn,List.all_append,hp,Bool.true_and];simp [hb]
   exact List.all_eq_true.1 hall (x,y) hxy
  | false=>
   have hf:zut inv cs ws=false:=by
    unfold zut;rw [List.all_eq_false];refine ⟨(c,cs[k]),?_,by rw [hb];decide⟩
    rw [List.mem_iff_getElem];exact ⟨k,by rw [List.length_zip];omega,by rw [List.getElem_zip,ec]⟩
   simp +decide [ints,int,I64,hf]
 ·have:k=ws.length:=by omega
  subst this;rw [List.take_length,hw,List.take_length] at hp;have hf:zut inv cs ws=true:=hp
  simp +decide [ints,int,hf]
end Go.V
namespace Go.V
open Go Go.Proofs
def zxp (inv:List Phon) (r:Rule) (w:List Int) (k:Nat):Bool:=
 decide (w[k]?.getD 0∈r.src)&&decide (r.left.length≤k)&&decide (k+1+r.right.length≤w.length) && !(r.beg&&decide (r.left.length<k)) && !(r.fin&&decide (k+1+r.right.length<w.length)) &&
  zut inv r.left ((w.take k).drop (k-r.left.length))&&zut inv r.right ((w.take (k+1+r.right.length)).drop (k+1))
structure RuleFit (r:Rule):Prop where
 src:r.src.length<2^40
 left:r.left.length<2^40
 right:r.right.length<2^40
set_option maxHeartbeats 4000000 in
theorem ycj (inv:List Phon) (hl:inv.length<2^62) (r:Rule) (hr:RuleFit r) (w:List Int) (hw:w.length<2^40) (k:Nat) (hk:k<w.length) :
  za2 Tryz.prog 147 [.agg [invD inv],.agg r.row,ints w,int k] (.bool (zxp inv r w k)):=by
 obtain ⟨h1,h2,h3⟩:=hr
 obtain ⟨x,ex⟩ : ∃ x,w[k]=x:=⟨_,rfl⟩
 have e1:w[k]?=some x:=by rw [List.getElem?_eq_getElem hk,ex]
 have hk':(k:Int)<w.length:=by omega
 have hH:=z4h r.src x (by omega)
 obtain ⟨R,hR⟩ : ∃ R,zxp inv r w k=R:=⟨_,rfl⟩
 rw [hR]
 unfold zxp at hR
 rw [e1,Option.getD_some] at hR
 refine zab mixed Tryz.func147 rfl call_147 ?_
 obtain ⟨src,dst,left,right,beg,fin⟩:=r
 simp only at h1 h2 h3 hH hR
 simp +decide [Tryz.f147,int,Rule.row,clsD,I64]
 refine ⟨by omega,by omega,by omega,?_⟩
 simp +decide [ints,e1,ex,hk,hk']
 refine zah (by rfl) (by rfl) hH (by simp [int,ints]) ?_
 by_cases hx:x∈src
 case neg=>
  have:R=false:=by rw [← hR];simp [hx]
  subst this;simp +decide [int,hx]
 by_cases hf:left.length≤k
 case neg=>
  have:R=false:=by rw [← hR];simp [hf]
  subst this;have hf':(k:Int)-left.length<0:=by omega
  simp +decide [int,hx,hf,hf']
 have hf':¬(k:Int)-left.length<0:=by omega
 by_cases ht:k+1+right.length≤w.length
 case neg=>
  have:R=false:=by rw [← hR];simp [ht]
  subst this;have ht':(w.length:Int)<k+1+right.length:=by omega
  simp +decide [int,hx,hf,hf',ht,ht']
 have ht':¬(w.length:Int)<k+1+right.length:=by omega
 by_cases hb:beg=true∧left.length<k
 case pos=>
  obtain ⟨hb1,hb2⟩:=hb;subst hb1;have:R=false:=by rw [← hR];simp [hb2]
  subst this;have hb':(0:Int)<(k:Int)-left.length:=by omega
  simp +decide [int,hx,hf,hf',ht,ht',hb',hb2]
 have hb2:(beg&&decide (left.length<k))=false:=by
  cases beg
  ·rfl
  ·simp at hb;simp [hb]
 by_cases he:fin=true∧k+1+right.length<w.length
 case pos=>
  obtain ⟨he1,he2⟩:=he;subst he1;have:R=false:=by rw [← hR];simp [he2]
  subst this;have he':(k:Int)+1+right.length<w.length:=by omega
  cases beg
  ·simp +decide [int,hx,hf,hf',ht,ht',he',he2]
  ·have hb':¬(0:Int)<(k:Int)-left.length:=by simp at hb;omega
   simp +decide [int,hx,hf,hf',ht,ht',he',he2,hb']
 have he2:(fin&&decide (k+1+right.length<w.length))=false:=by
  cases fin
  ·rfl
  ·simp at he;simp [he]
 have hL1:((w.take k).drop (k-left.length)).length=left.length:=by rw [List.length_drop,List.length_take];omega
 have hR1:((w.take (k+1+right.length)).drop (k+1)).length=right.length:=by rw [List.length_drop,List.length_take];omega
 have hFl:=z4i inv left _ hL1 hl (by omega)
 have hFr:=z4i inv right _ hR1 hl (by omega)
 have eL : ∀ a b,ints ((w.take a).drop b) = .sl (((w.map fun n=>[D.int .i64 n]).take a).drop b):=fun a b=>by simp [ints,List.map_drop,List.map_take]
 rw [eL] at hFl hFr
 rw [hb2,he2] at hR
 generalize zut inv left ((w.take k).drop (k-left.length))=b1 at hFl hR
 generalize zut inv right ((w.take (k+1+right.length)).drop (k+1))=b2 at hFr hR
 have hR:R=(b1&&b2):=by rw [← hR];simp [hx,hf,ht]
 subst hR
 have hbeg:beg=true→¬(0:Int)<(k:Int)-left.length:=by
  intro e;subst e;simp at hb;omega
 have hfin:fin=true→¬(k:Int)+1+right.length<w.length:=by
  intro e;subst e;simp at he;omega
 have ek:((k:Int)+1+right.length).toNat=k+1+right.length:=by omega
 have ek1:((k:Int)+1).toNat=k+1:=by omega
 rw [← ek] at hFr
 cases beg with
 | false=>
  cases fin with
  | false=>
   simp +decide [int,hx,hf,hf',ht,ht'];refine ⟨⟨by omega,by omega⟩,?_⟩
   refine zah (by rfl) (by rfl) hFl (by simp [int,ints]) ?_
   cases b1 with
   | false=>simp +decide [int]
   | true=>
    simp +decide [int,ints,I64];refine ⟨⟨by omega,by omega⟩,⟨by omega,by omega,by omega⟩,?_⟩
    refine zah (by rfl) (by rfl) hFr (by simp [int,ints]) ?_
    simp +decide [int]
  | true=>
   have:=hfin rfl
   simp +decide [int,hx,hf,hf',ht,ht',this];refine ⟨⟨by omega,by omega⟩,?_⟩
   refine zah (by rfl) (by rfl) hFl (by simp [int,ints]) ?_
   cases b1 with
   | false=>simp +decide [int]
   | true=>
    simp +decide [int,ints,I64];refine ⟨⟨by omega,by omega⟩,⟨by omega,by omega,by omega⟩,?_⟩
    refine zah (by rfl) (by rfl) hFr (by simp [int,ints]) ?_
    simp +decide [int]
 | true=>
  have hb':=hbeg rfl;have hb3:¬ left.length<k:=by omega
  cases fin with
  | false=>
   simp +decide [int,hx,hf,hf',ht,ht',hb',hb3];refine ⟨⟨by omega,by omega⟩,?_⟩
   refine zah (by rfl) (by rfl) hFl (by simp [int,ints]) ?_
   cases b1 with
   | false=>simp +decide [int]
   | true=>
    simp +decide [int,ints,I64];refine ⟨⟨by omega,by omega⟩,⟨by omega,by omega,by omega⟩,?_⟩
    refine zah (by rfl) (by rfl) hFr (by simp [int,ints]) ?_
    simp +decide [int]
  | true=>
   have:=hfin rfl
   simp +decide [int,hx,hf,hf',ht,ht',hb',hb3,this];refine ⟨⟨by omega,by omega⟩,?_⟩
   refine zah (by rfl) (by rfl) hFl (by simp [int,ints]) ?_
   cases b1 with
   | false=>simp +decide [int]
   | true=>
    simp +decide [int,ints,I64];refine ⟨⟨by omega,by omega⟩,⟨by omega,by omega,by omega⟩,?_⟩
    refine zah (by rfl) (by rfl) hFr (by simp [int,ints]) ?_
    simp +decide [int]
def segE (inv:List Phon) (r:Rule) (w:List Int) (k:Nat) (x:Int):List Int:=
 if zxp inv r w k=true then (if r.dst[(idxL r.src x).toNat]?.getD 0=0 then [] else [r.dst[(idxL r.src x).toNat]?.getD 0]) else [x]
def zn9 (inv:List Phon) (r:Rule) (w:List Int):List Int:=(w.zipIdx.map fun x=>segE inv r w x.2 x.1).flatten
theorem zxq {α:Type} {l:List α} {k:Nat} (h:k<l.length):l.zipIdx.take (k+1)=l.zipIdx.take k++[(l[k],k)]:=by
 have h':k<l.zipIdx.length:=by simpa using h
 rw [zas h']
 simp
def zkl (inv:List Phon) (r:Rule) (w:List Int) (k:Nat):List Int:=((w.zipIdx.take k).map fun x=>segE inv r w x.2 x.1).flatten
theorem zoa {inv:List Phon} {r:Rule} {w:List Int} {k:Nat} (h:k<w.length):zkl inv r w (k+1)=zkl inv r w k++segE inv r w k w[k]:=by
 unfold zkl;rw [zxq h,List.map_append,List.flatten_append];simp
theorem z9u (inv:List Phon) (r:Rule) (w:List Int) (k:Nat) (x:Int):(segE inv r w k x).length≤1:=by
 unfold segE;split
 ·split <;> simp
 ·simp
theorem zlt (inv:List Phon) (r:Rule) (w:List Int) : ∀ k,k≤w.length→(zkl inv r w k).length≤k
 | 0,_=>by simp [zkl]
 | k+1,h=>by
  rw [zoa (by omega),List.length_append]
  have h1:=zlt inv r w k (by omega)
  have h2:=z9u inv r w k (w[k]'(by omega))
  omega
theorem zq4 (inv:List Phon) (r:Rule) (w:List Int):zkl inv r w w.length=zn9 inv r w:=by
 unfold zkl zn9
 rw [List.take_of_length_le (by simp)]
structure RuleOk (r:Rule):Prop extends RuleFit r where
 dst:r.dst.length=r.src.length
set_option maxHeartbeats 4000000 in
theorem z9v (inv:List Phon) (hl:inv.length<2^62) (r:Rule) (hr:RuleOk r) (w:List Int) (hw:w.length<2^40) :
  za2 Tryz.prog 102 [.agg [invD inv],.agg r.row,ints w] (ints (zn9 inv r w)):=by
 rw [← zq4]
 refine zab mixed Tryz.func102 rfl call_102 ?_
 simp +decide [Tryz.f102,int,ints,Rule.row]
 refine zaf mixed (fun k:Nat=>{n:=38,next:=4,slots:=[(2,.d (ints w)),(3,.bp 0 0),(4,.bp 1 0),(7,.ar 3),(10,.d (ints w)),(11,.d (int w.length)),(12,.d (int k))],own:=[(0,.box 24 [.d (invD inv)]),(1,.box 77 (r.row.map .d)),(3,.arr 3 1 ((zkl inv r w k).map fun n=>[int n]))],moved:=[3]})
  (fun k=>k≤w.length) (fun k=>w.length-k) 0 (by simp) (by simp +decide [int,ints,Rule.row,zkl]) ?_
 intro k hk
 by_cases hlt:k<w.length
 case neg=>
  have:k=w.length:=by omega
  subst this;simp +decide [int,ints]
 have hlt':(k:Int)<w.length:=by omega
 have hsn:=zoa (inv:=inv) (r:=r) hlt
 have hlen:=zlt inv r w k hk
 have hS:=ycj inv hl r hr.toRuleFit w hw k hlt
 obtain ⟨x,ex⟩ : ∃ x,w[k]=x:=⟨_,rfl⟩
 have e1:w[k]?=some x:=by rw [List.getElem?_eq_getElem hlt,ex]
 rw [ex] at hsn
 have hI:=zz0 r.src x (by have:=hr.src;omega)
 have hmem:=zzy r.src x
 have hidx:x∈r.src→∃ j:Nat,j<r.src.length∧idxL r.src x=j:=by
  intro hx;unfold idxL at hmem ⊢;cases hq:r.src.findIdx? (· = x) with
  | none=>rw [hq] at hmem;exact absurd (hmem.2 hx) (by decide)
  | some j=>
   rw [List.findIdx?_eq_some_iff_getElem] at hq;exact ⟨j,hq.1,rfl⟩
 have hsite:zxp inv r w k=true→x∈r.src:=by
  intro h;unfold zxp at h;simp only [Bool.and_eq_true,decide_eq_true_eq] at h;have:=h.1.1.1.1.1.1
  rwa [e1,Option.getD_some] at this
 have hdst:=hr.dst
 unfold segE at hsn
 simp +decide [int,ints,Rule.row,hlt,hlt',e1,ex,I64]
 refine zam.pure (by rfl) hS (by simp) ?_
 cases hb:zxp inv r w k with
 | false=>
  rw [hb] at hsn;simp only [Bool.false_eq_true,if_false] at hsn;simp +decide [int,ints,Rule.row,I64];exact ⟨by omega,by unfold maxLen;omega,⟨by omega,by omega⟩,k+1,hlt,by omega,by omega,by rw [hsn];simp⟩
 | true=>
  rw [hb] at hsn;simp only [if_true] at hsn;obtain ⟨j,hj,ej⟩:=hidx (hsite hb);have hjd:j<r.dst.length:=by omega
  obtain ⟨y,ey⟩ : ∃ y,r.dst[j]=y:=⟨_,rfl⟩;have e2:r.dst[j]?=some y:=by rw [List.getElem?_eq_getElem hjd,ey]
  rw [ej,Int.toNat_natCast,e2,Option.getD_some] at hsn;rw [ej] at hI;have hj':(j:Int)<r.dst.length:=by omega
  simp +decide [int,ints,Rule.row,I64];refine zah (by rfl) (by rfl) hI (by simp [int]) ?_
  simp +decide [int,ints,Rule.row,hjd,hj',e2,ey,I64];by_cases hy:y=0
  ·rw [if_pos hy,List.append_nil] at hsn
   simp +decide [int,ints,Rule.row,hy,I64];exact ⟨⟨by omega,by omega⟩,k+1,hlt,by omega,by omega,by rw [hsn]⟩
  ·rw [if_neg hy] at hsn
   simp +decide [int,ints,Rule.row,hy,I64];exact ⟨by omega,by unfold maxLen;omega,⟨by omega,by omega⟩,k+1,hlt,by omega,by omega,by rw [hsn];simp⟩
theorem z1i (inv:List Phon) (r:Rule) (w:List Int):(zn9 inv r w).length≤w.length:=by
 rw [← zq4];exact zlt inv r w _ (Nat.le_refl _)
def zgx (inv:List Phon) (rs:List Rule) (w:List Int):List Int:=rs.foldl (fun w r=>zn9 inv r w) w
theorem zob (inv:List Phon) : ∀ (rs:List Rule) (w:List Int),(zgx inv rs w).length≤w.length
 | [],w=>Nat.le_refl _
 | r::rs,w=>by
  have h1:=zob inv rs (zn9 inv r w);have h2:=z1i inv r w;unfold zgx at h1 ⊢;rw [List.foldl_cons];omega
set_option maxHeartbeats 2000000 in
theorem yck (inv:List Phon) (hl:inv.length<2^62) (rs:List Rule) (hr : ∀ r∈rs,RuleOk r) (hn:rs.length<2^40) (w:List Int) (hw:w.length<2^40) :
  za2 Tryz.prog 61 [.agg [invD inv],zb0 rs,ints w] (ints (zgx inv rs w)):=by
 refine zab mixed Tryz.func61 rfl call_61 ?_
 simp +decide [Tryz.f61,int,ints,zb0]
 refine zaf mixed (fun k:Nat=>{n:=21,next:=2,slots:=[(2,.d (ints (zgx inv (rs.take k) w))),(3,.bp 0 0),(9,.d (zb0 rs)),(10,.d (int rs.length)),(11,.d (int k))],own:=[(0,.box 24 [.d (invD inv)])]})
  (fun k=>k≤rs.length) (fun k=>rs.length-k) 0 (by simp) (by simp +decide [int,ints,zb0,zgx]) ?_
 intro k hk
 by_cases hlt:k<rs.length
 case neg=>
  have:k=rs.length:=by omega
  subst this;rw [List.take_length];simp +decide [int,ints,zb0]
 have hlt':(k:Int)<rs.length:=by omega
 have hsn:zgx inv (rs.take (k+1)) w=zn9 inv rs[k] (zgx inv (rs.take k) w):=by unfold zgx;rw [zas hlt,List.foldl_append];rfl
 have hll:=zob inv (rs.take k) w
 have hro:=hr rs[k] (List.getElem_mem hlt)
 obtain ⟨r,er⟩ : ∃ r,rs[k]=r:=⟨_,rfl⟩
 have e1:rs[k]?=some r:=by rw [List.getElem?_eq_getElem hlt,er]
 rw [er] at hsn hro
 generalize zgx inv (rs.take k) w=u at hsn hll
 have hA:=z9v inv hl r hro u (by omega)
 simp +decide [int,ints,zb0,Rule.row,hlt,hlt',e1,er,I64]
 refine zam.pure (by rfl) hA (by simp [Rule.row,int]) ?_
 simp +decide [int,ints,zb0,Rule.row,I64]
 exact ⟨⟨by omega,by omega⟩,k+1,hlt,by omega,by rw [hsn],by omega⟩
end Go.V
namespace Go.V
open Go Go.Proofs
structure LangOk (g:Lang):Prop where
 lex:LexFit g.lex
 inv:g.inv.length<2^40
 rules:(∀ r∈g.rules,RuleOk r)∧g.rules.length<2^40
 net:yd5 g.net
def zoc (l:List Ent) (p:Prt):Int:=
 if (getE l p.entry).2=false then 9 else if (zur l p).2.2=false then 2 else if p.sense<0∨(zcf l p.entry).length≤p.sense then 22 else 0
def zuu (l:List Ent):List Prt→Int
 | []=>0
 | p::ps=>if zoc l p=0 then zuu l ps else zoc l p
def zuv (g:Lang) (ps:List Prt):Int:=
 if ps.length=0 then 4 else if 4<ps.length then 11 else if zuu g.lex ps≠0 then zuu g.lex ps else if zns g.net (zba g.lex ps)=false then 21 else if 24<(zb3 g.lex ps).length then 5 else 0
end Go.V

/- Contracts and plain laws of this seat: part M2. It needs no conditions. -/
import Derived.Test.YtgglheknmlfghaaGreatM1
import Derived.Test.YtgglheknmlfghaaGreatW1
set_option linter.unusedVariables false
set_option linter.unusedSimpArgs false
set_option linter.unusedSectionVars false
set_option maxRecDepth 100000
namespace Go.V
open Go Go.Proofs
theorem zam {α:Type} {l:List α} {k:Nat} (h:k<l.length):l.take (k+1)=l.take k++[l[k]]:=by
 rw [List.take_succ_eq_append_getElem h]
def u32 (m:Nat):D:=.int .u32 m
def hasS (m:Nat) (q:Int):Bool:=m.testBit q.toNat
def zg5 (m:Nat) (q:Int):Nat:=m ||| (1 <<< q.toNat)
theorem yak : ∀ (m:Fin 8) (q:Fin 3),(decide (zhb .and .u32 (zjy .shr .u32 (m.val:Int) (q.val:Int)) 1=1))=m.val.testBit q.val:=by decide +kernel
theorem z5d : ∀ (m:Fin 8) (q:Fin 3),zhb .or .u32 (m.val:Int) (zjy .shl .u32 1 (q.val:Int))=((m.val ||| (1 <<< q.val):Nat):Int):=by decide +kernel
theorem ydh : ∀ (m:Fin 8) (q:Fin 3),m.val ||| (1 <<< q.val)<8:=by decide +kernel
theorem zu8 {m:Nat} {q:Int} (hm:m<8) (h0:0≤q) (h1:q<3):(decide (zhb .and .u32 (zjy .shr .u32 (m:Int) q) 1=1))=hasS m q:=by
 have:=yak ⟨m,hm⟩ ⟨q.toNat,by omega⟩
 simp only [show ((q.toNat:Nat):Int)=q by omega] at this
 exact this
theorem zmc {m:Nat} {q:Int} (hm:m<8) (h0:0≤q) (h1:q<3):zhb .or .u32 (m:Int) (zjy .shl .u32 1 q)=((zg5 m q:Nat):Int):=by
 have:=z5d ⟨m,hm⟩ ⟨q.toNat,by omega⟩
 simp only [show ((q.toNat:Nat):Int)=q by omega] at this
 exact this
theorem z0g {m:Nat} {q:Int} (hm:m<8) (h0:0≤q) (h1:q<3):zg5 m q<8:=ydh ⟨m,hm⟩ ⟨q.toNat,by omega⟩
theorem z5e (m:Nat) (q:Int) (hm:m<8) (h0:0≤q) (h1:q<3):zay Tryz.prog 188 [u32 m,int q] (.bool (hasS m q)):=by
 refine zaa mixed Tryz.func188 rfl call_188 ?_
 simp +decide [Tryz.f188,u32,int]
 have hw:IntKind.u64.wrap q=q:=by rw [IntKind.wrap_u64];omega
 rw [hw]
 exact .inl ⟨h0,zu8 hm h0 h1⟩
theorem zrn (m:Nat) (q:Int) (hm:m<8) (h0:0≤q) (h1:q<3):zay Tryz.prog 166 [u32 m,int q] (u32 (zg5 m q)):=by
 refine zaa mixed Tryz.func166 rfl call_166 ?_
 simp +decide [Tryz.f166,u32,int]
 have hw:IntKind.u64.wrap q=q:=by rw [IntKind.wrap_u64];omega
 rw [hw]
 exact .inl ⟨h0,zmc hm h0 h1⟩
abbrev zx5 (n:Nett) (m:Nat):D:=.fn 187 [.ptr n.cells,.ptr [u32 m]]
theorem yal (n:Nett) (m:Nat):zay Tryz.prog 179 [.agg n.cells,u32 m] (zx5 n m):=by
 refine zaa mixed Tryz.func179 rfl call_179 ?_
 simp +decide [Tryz.f179,u32,int,Nett.cells]
def zbe (m:Nat) (c:Int) (out:Nat) (s:Stp):Nat:=if hasS m s.src=true∧s.cls=c then zg5 out s.dst else out
def zax (l:List Stp) (m:Nat) (c:Int):Nat:=l.foldl (zbe m c) 0
def zj7 (l:List Stp):Prop:=∀ s∈l,(0≤s.src∧s.src<3)∧(0≤s.dst∧s.dst<3)
theorem zof {m:Nat} {c:Int} : ∀ {l:List Stp} {out:Nat},zj7 l→out<8→l.foldl (zbe m c) out<8
 | [],out,_,h=>h
 | s::l,out,hl,h=>by
  rw [List.foldl_cons];refine zof (fun x hx=>hl x (by simp [hx])) ?_
  unfold zbe;split
  ·have:=(hl s (by simp)).2;exact z0g h this.1 this.2
  ·exact h
theorem zfd {l:List Stp} (h:zj7 l) (m:Nat) (c:Int):zax l m c<8:=zof h (by omega)
def zdu (n:Nett) (m:Nat):List Sym:=[.junk,.junk,.junk,.junk,.junk,.bp 2 0,.junk,.bp 1 0,.junk,.junk,.junk,.d (zx5 n m),.junk,.junk,.junk,.junk,.junk,.junk,.junk,.junk,.junk,.junk]
@[simp] theorem ydi (n:Nett) (m:Nat):Sym.los 3 (zdu n m):=by simp [zdu,Sym.los,Sym.lo]
noncomputable def zd7 (n:Nett) (m:Nat) (c:Int) (out:Nat) (s:LoopState):List (Nat×Obj'):=
 [(0,.raw (.lp #[12] (rAs Tryz.f165) (rBd Tryz.f165) s none) (zdu n m)),(1,.box 188 [.d (u32 out)]),(2,.box 3 [.d (int c)])]
theorem z5f (n:Nett) (m:Nat) (c:Int) (out:Nat) (hout:out<8) (s:Stp) (hs:0≤s.dst∧s.dst<3) :
  zqm Tryz.prog 0 [.d (.agg s.row)] (zd7 n m c out .ready) 3 (.d (.bool true)) 3 (zd7 n m c (if s.cls=c then zg5 out s.dst else out) .ready) []:=by
 refine zuo (cells:=zdu n m) (ps:=#[12]) (aS := rAs Tryz.f165) (bd:=rBd Tryz.f165) rfl (by simp) (by simp [zdu]) (by omega) (by simp [Sym.los,Sym.lo]) ?_
 have hw:=zrn out s.dst hout hs.1 hs.2
 by_cases hc:s.cls=c
 ·rw [if_pos hc]
  simp +decide [zd7,zdu,rAs,rBd,zd3,Tryz.f165,Stp.row,int,u32,hc];refine zal.pure (by rfl) hw (by simp [u32,int]) ?_
  simp +decide [u32,int]
 ·rw [if_neg hc]
  simp +decide [zd7,zdu,rAs,rBd,zd3,Tryz.f165,Stp.row,int,u32,hc]
set_option maxHeartbeats 2000000 in
theorem yam (n:Nett) (m:Nat) (c:Int) (hok:zj7 n.steps) (hm:m<8) (hl:n.steps.length<2^40) :
  zcb Tryz.prog 187 [.yd 0,.d (.ptr n.cells),.d (.ptr [u32 m])] (zd7 n m c 0 .ready) 3 (.d (.tup [])) 3 (zd7 n m c (zax n.steps m c) .ready) []:=by
 refine zcb.yf8 (zbg mixed Tryz.func187 rfl call_187 (by simp [Sym.los,Sym.lo]) ?_)
 simp +decide [Tryz.f187,Nett.cells,stepsD,int,u32]
 refine zbc mixed (fun k:Nat=>{n:=24,next:=3,base:=3,slots:=[(0,.yd 0),(1,.d (.ptr n.cells)),(2,.d (.ptr [u32 m])),(7,.d (stepsD n.steps)),(8,.d (int n.steps.length)),(9,.d (int k))],own:=zd7 n m c ((n.steps.take k).foldl (zbe m c) 0) .ready})
  (fun k=>k≤n.steps.length) (fun k=>n.steps.length-k) 0 (by simp) (by simp +decide [int,u32,stepsD,Nett.cells,zd7]) ?_
 intro k hk
 refine zl2 ?_
 by_cases hlt:k<n.steps.length
 case neg=>
  have:k=n.steps.length:=by omega
  subst this;rw [List.take_length];have ha:(n.steps.foldl (zbe m c) 0)=zax n.steps m c:=rfl
  rw [ha];simp +decide [int,u32,stepsD,Nett.cells,zd7]
 have hlt':(k:Int)<n.steps.length:=by omega
 have hsn:(n.steps.take (k+1)).foldl (zbe m c) 0=zbe m c ((n.steps.take k).foldl (zbe m c) 0) n.steps[k]:=by rw [zam hlt,List.foldl_append];rfl
 have ho8:(n.steps.take k).foldl (zbe m c) 0<8:=zof (fun x hx=>hok x (List.mem_of_mem_take hx)) (by omega)
 obtain ⟨s,es⟩ : ∃ s,n.steps[k]=s:=⟨_,rfl⟩
 have e1:n.steps[k]?=some s:=by rw [List.getElem?_eq_getElem hlt,es]
 have hsok:=hok s (by rw [← es];exact List.getElem_mem hlt)
 rw [es] at hsn
 generalize (n.steps.take k).foldl (zbe m c) 0=out at hsn ho8
 have hH:=z5e m s.src hm hsok.1.1 hsok.1.2
 have hR:=z5f n m c out ho8 s hsok.2
 simp +decide [int,u32,stepsD,Nett.cells,Stp.row,zd7,hlt,hlt',e1,es,I64]
 refine zal.pure (by rfl) hH (by simp [u32,int]) ?_
 cases hb:hasS m s.src with
 | false=>
  have h2:zbe m c out s=out:=by unfold zbe;rw [if_neg (by rw [hb];simp)]
  rw [h2] at hsn;simp +decide [int,u32,stepsD,Nett.cells,Stp.row,zd7,hlt,hlt',e1,es,I64];exact ⟨⟨by omega,by omega⟩,k+1,hlt,by omega,by omega,by rw [hsn]⟩
 | true=>
  have h2:zbe m c out s=if s.cls=c then zg5 out s.dst else out:=by unfold zbe;rw [hb];simp
  rw [h2] at hsn;simp +decide [int,u32,stepsD,Nett.cells,Stp.row,zd7,hlt,hlt',e1,es,I64];refine zqh.to 0 [0,1,2] [.d (.agg s.row)] (zd7 n m c out .ready) (by simp [rho]) (by simp [Stp.row,int]) (by simp [Sym.los,Sym.lo]) (by simp [zd7,zdu,u32,int];rfl) hR ?_
  simp +decide [int,u32,stepsD,Nett.cells,Stp.row,zd7,zdu,hlt,hlt',e1,es,I64];exact ⟨⟨by omega,by omega⟩,k+1,hlt,by omega,by omega,by rw [hsn]⟩
set_option maxHeartbeats 2000000 in
theorem yan (n:Nett) (m:Nat) (c:Int) (hok:zj7 n.steps) (hm:m<8) (hl:n.steps.length<2^40) :
  zay Tryz.prog 165 [.agg n.cells,u32 m,int c] (u32 (zax n.steps m c)):=by
 refine zj4 Tryz.func165 rfl call_165 ?_
 refine zuq mixed 2 {n:=22,next:=3,slots:=[(1,.d (u32 m)),(3,.bp 0 0),(5,.bp 1 0),(7,.bp 2 0)],own:=[(0,.box 33 (n.cells.map .d)),(1,.box 3 [.d (int c)]),(2,.box 188 [.d (u32 0)])]} rfl ?_ ?_
 ·simp +decide [Tryz.f165,ze4,Nett.cells,int,u32]
 simp only [zfr]
 refine zn0 (zuq mixed 1 {n:=22,next:=3,slots:=[(5,.bp 1 0),(7,.bp 2 0),(11,.d (zx5 n m))],own:=[(1,.box 3 [.d (int c)]),(2,.box 188 [.d (u32 0)])]} rfl ?_ ?_)
 ·simp +decide [ze4,Nett.cells,int,u32]
  refine zal.pure (by rfl) (yal n m) (by simp [Nett.cells,int,u32]) ?_
  simp +decide [Nett.cells,int,u32]
 simp only [zfr]
 refine zl4 (zl3 (k:=0) (ids:=[3,2,1]) (args0:=[.yd 0,.d (.ptr n.cells),.d (.ptr [u32 m])]) (own0:=zd7 n m c 0 .ready) (by rfl) (by simp [rho]) (by simp) (by simp [Sym.los,Sym.lo]) ?_ (yam n m c hok hm hl) ?_)
 ·simp +decide [zd7,zdu,rAs,rBd,zd3,Tryz.f165,u32,int]
 ·simp +decide [zd7,zdu,u32,int]
end Go.V
namespace Go.V
open Go Go.Proofs
def runS (l:List Stp) (cs:List Int):Nat:=cs.foldl (fun m c=>zax l m c) 1
def zbz (l:List Int):Nat:=l.foldl zg5 0
theorem zx6 {l:List Stp} (h:zj7 l) : ∀ (cs:List Int) (m:Nat),m<8→cs.foldl (fun m c=>zax l m c) m<8
 | [],m,hm=>hm
 | c::cs,m,hm=>by rw [List.foldl_cons];exact zx6 h cs _ (zfd h m c)
theorem zgg : ∀ (l:List Int) (m:Nat),(∀ q∈l,0≤q∧q<3)→m<8→l.foldl zg5 m<8
 | [],m,_,hm=>hm
 | q::l,m,h,hm=>by
  rw [List.foldl_cons];exact zgg l _ (fun x hx=>h x (by simp [hx])) (z0g hm (h q (by simp)).1 (h q (by simp)).2)
theorem yao (n:Nett) (hok:zj7 n.steps) (hl:n.steps.length<2^40) (cs:List Int) (hc:cs.length<2^40):zay Tryz.prog 145 [.agg n.cells,ints cs] (u32 (runS n.steps cs)):=by
 refine zaa mixed Tryz.func145 rfl call_145 ?_
 simp +decide [Tryz.f145,Nett.cells,int,ints,u32]
 refine zaf mixed (fun k:Nat=>{n:=20,next:=1,slots:=[(2,.bp 0 0),(5,.d (u32 (runS n.steps (cs.take k)))),(8,.d (ints cs)),(9,.d (int cs.length)),(10,.d (int k))],own:=[(0,.box 33 (n.cells.map .d))]})
  (fun k=>k≤cs.length) (fun k=>cs.length-k) 0 (by simp) (by simp +decide [int,ints,u32,Nett.cells,runS]) ?_
 intro k hk
 by_cases hlt:k<cs.length
 case neg=>
  have:k=cs.length:=by omega
  subst this;rw [List.take_length];simp +decide [int,ints,u32]
 have hlt':(k:Int)<cs.length:=by omega
 have hsn:runS n.steps (cs.take (k+1))=zax n.steps (runS n.steps (cs.take k)) cs[k]:=by unfold runS;rw [zam hlt,List.foldl_append];rfl
 have hm8:runS n.steps (cs.take k)<8:=zx6 hok _ 1 (by omega)
 obtain ⟨c,ec⟩ : ∃ c,cs[k]=c:=⟨_,rfl⟩
 have e1:cs[k]?=some c:=by rw [List.getElem?_eq_getElem hlt,ec]
 rw [ec] at hsn
 generalize runS n.steps (cs.take k)=m at hsn hm8
 have hA:=yan n m c hok hm8 hl
 simp +decide [int,ints,u32,Nett.cells,hlt,hlt',e1,ec,I64]
 refine zal.pure (by rfl) hA (by simp [u32,int,Nett.cells]) ?_
 simp +decide [int,ints,u32,Nett.cells,I64]
 exact ⟨⟨by omega,by omega⟩,k+1,hlt,by omega,by rw [hsn],by omega⟩
theorem z18 (n:Nett) (hf : ∀ q∈n.final,0≤q∧q<3) (hl:n.final.length<2^40):zay Tryz.prog 146 [.agg n.cells] (u32 (zbz n.final)):=by
 refine zaa mixed Tryz.func146 rfl call_146 ?_
 simp +decide [Tryz.f146,Nett.cells,int,ints,u32]
 refine zaf mixed (fun k:Nat=>{n:=18,next:=1,slots:=[(3,.d (u32 (zbz (n.final.take k)))),(7,.d (ints n.final)),(8,.d (int n.final.length)),(9,.d (int k))],own:=[]})
  (fun k=>k≤n.final.length) (fun k=>n.final.length-k) 0 (by simp) (by simp +decide [int,ints,u32,Nett.cells,zbz]) ?_
 intro k hk
 by_cases hlt:k<n.final.length
 case neg=>
  have:k=n.final.length:=by omega
  subst this;rw [List.take_length];simp +decide [int,ints,u32]
 have hlt':(k:Int)<n.final.length:=by omega
 have hsn:zbz (n.final.take (k+1))=zg5 (zbz (n.final.take k)) n.final[k]:=by unfold zbz;rw [zam hlt,List.foldl_append];rfl
 have hm8:zbz (n.final.take k)<8:=zgg _ 0 (fun x hx=>hf x (List.mem_of_mem_take hx)) (by omega)
 have hq:=hf n.final[k] (List.getElem_mem hlt)
 obtain ⟨c,ec⟩ : ∃ c,n.final[k]=c:=⟨_,rfl⟩
 have e1:n.final[k]?=some c:=by rw [List.getElem?_eq_getElem hlt,ec]
 rw [ec] at hsn hq
 generalize zbz (n.final.take k)=m at hsn hm8
 have hA:=zrn m c hm8 hq.1 hq.2
 simp +decide [int,ints,u32,Nett.cells,hlt,hlt',e1,ec,I64]
 refine zal.pure (by rfl) hA (by simp [u32,int,Nett.cells]) ?_
 simp +decide [int,ints,u32,Nett.cells,I64]
 exact ⟨⟨by omega,by omega⟩,k+1,hlt,by omega,by rw [hsn],by omega⟩
def ydj (n:Nett):Prop:=zj7 n.steps∧(∀ q∈n.final,0≤q∧q<3)∧n.steps.length<2^40∧n.final.length<2^40
theorem yap : ∀ (a b:Fin 8),(zhb .and .u32 (a.val:Int) (b.val:Int))=((a.val &&& b.val:Nat):Int):=by decide +kernel
def zej (n:Nett) (cs:List Int):Bool:=decide (runS n.steps cs &&& zbz n.final≠0)
theorem z19 (n:Nett) (hn:ydj n) (cs:List Int) (hc:cs.length<2^40):zay Tryz.prog 100 [.agg n.cells,ints cs] (.bool (zej n cs)):=by
 obtain ⟨h1,h2,h3,h4⟩:=hn
 have w1:=yao n h1 h3 cs hc
 have w2:=z18 n h2 h4
 have l1:runS n.steps cs<8:=zx6 h1 cs 1 (by omega)
 have l2:zbz n.final<8:=zgg _ 0 h2 (by omega)
 unfold zej
 generalize runS n.steps cs=a at w1 l1 ⊢
 generalize zbz n.final=b at w2 l2 ⊢
 have hb:=yap ⟨a,l1⟩ ⟨b,l2⟩
 simp only at hb
 refine zaa mixed Tryz.func100 rfl call_100 ?_
 simp +decide [Tryz.f100,Nett.cells,int,ints]
 refine zah (by rfl) (by rfl) w1 (by simp [u32,int,Nett.cells]) ?_
 simp +decide [int,ints,u32,Nett.cells,I64]
 refine zah (by rfl) (by rfl) w2 (by simp [u32,int,Nett.cells]) ?_
 simp +decide [int,ints,u32,Nett.cells,I64,hb]
theorem yaq (e:Ent) (id:Int):zay Tryz.prog 144 [.agg e.row,.ptr [int id]] (.bool (decide (e.id=id))):=by
 refine zaa mixed Tryz.func144 rfl call_144 ?_
 simp +decide [Tryz.f144,Ent.row,int]
theorem z5g (l:List Ent) (id:Int) (hl:l.length<2^62):zay Tryz.prog 143 [lexD l,.fn 144 [.ptr [int id]]] (int (zdj l id)):=by
 refine zaa mixed Tryz.func143 rfl call_143 ?_
 simp [Tryz.f143,lexD]
 refine zaf mixed (fun k:Nat=>{n:=19,next:=0,slots:=[(0,.d (lexD l)),(1,.d (.fn 144 [.ptr [int id]])),(6,.d (lexD l)),(7,.d (.int .i64 l.length)),(8,.d (.int .i64 k))],own:=[]})
  (fun k=>k≤l.length∧∀ e∈l.take k,e.id≠id) (fun k=>l.length-k) 0 (by simp) (by simp [lexD]) ?_
 intro k ⟨hk,hp⟩
 by_cases hlt:k<l.length
 ·have hlt':(k:Int)<l.length:=by omega
  obtain ⟨e,ee⟩ : ∃ e,l[k]=e:=⟨_,rfl⟩;have e1:l[k]?=some e:=by rw [List.getElem?_eq_getElem hlt,ee]
  simp +decide [lexD,Ent.row,int,e1,ee,hlt,hlt',I64];refine zal.pure (by rfl) (yaq e id) (by simp [Ent.row,int]) ?_
  by_cases he:e.id=id
  ·have:=zou hlt hp (by rw [ee];exact he)
   simp +decide [lexD,int,he,I64,zdj,this]
  ·simp +decide [lexD,int,he,I64]
   exact ⟨⟨by omega,by omega⟩,k+1,⟨hlt,zi4 hlt hp (by rw [ee];exact he)⟩,by omega,by omega⟩
 ·have:k=l.length:=by omega
  subst this;simp +decide [lexD,int];simp [zdj,zma (by simpa using hp)]
theorem zc7 (l:List Ent) (id:Int):(zdj l id<0∧getE l id=(Ent.zero,false))∨∃ k:Nat,∃ h:k<l.length,zdj l id=k∧getE l id=(l[k],true):=by
 unfold zdj getE
 cases h:l.findIdx? (·.id=id) with
 | none=>
  left
  rw [List.findIdx?_eq_none_iff] at h;have:l.find? (·.id=id)=none:=by rw [List.find?_eq_none];intro x hx;simpa using h x hx
  rw [this];exact ⟨by simp,rfl⟩
 | some k=>
  right
  rw [List.findIdx?_eq_some_iff_getElem] at h;obtain ⟨h1,h2,h3⟩:=h;refine ⟨k,h1,rfl,?_⟩
  have:l.find? (·.id=id)=some l[k]:=by
   rw [List.find?_eq_some_iff_getElem];exact ⟨h2,k,h1,rfl,fun j hj=>by simpa using h3 j hj⟩
  rw [this]
theorem zox (l:List Ent) (id:Int) (hl:l.length<2^40):zay Tryz.prog 99 [lexD l,int id] (.tup [.agg (getE l id).1.row,.bool (getE l id).2]):=by
 refine zaa mixed Tryz.func99 rfl call_99 ?_
 simp +decide [Tryz.f99,lexD,int]
 refine zal.pure (by rfl) (z5g l id (by omega)) (fun _=>rfl) ?_
 rcases zc7 l id with ⟨h1,h2⟩ | ⟨k,hk,h1,h2⟩
 ·rw [h2]
  simp +decide [lexD,int,h1,Ent.zero,Ent.row,ints,zbh,zbq,lnkD,rfD]
 ·rw [h2,h1]
  have hk0:¬(k:Int)<0:=by omega
  have hk':(k:Int)<l.length:=by omega
  simp +decide [lexD,int,hk0,hk,hk',Ent.row,ints,zbh,zbq,lnkD,rfD]
end Go.V
namespace Go.V
open Go Go.Proofs
def wayR (l:List Ent):Nat→Int→Option (List Sens)
 | 0,_=>none
 | f+1,id=>if (getE l id).2=true then (if (getE l id).1.senses≠[] then some (getE l id).1.senses else if (getE l id).1.main=0 then none else wayR l f (getE l id).1.main) else none
def zcp (l:List Ent) (id:Int):List Sens:=(wayR l (l.length+1) id).getD []
theorem zu9 (l:List Sens) (hl:l.length<2^40):zay Tryz.prog 139 [zbq l] (zbq l):=by
 refine zaa mixed Tryz.func139 rfl call_139 ?_
 simp +decide [Tryz.f139,zbq,maxLen]
 exact ⟨fun a _=>rfl,by omega,by omega⟩
def zcq:List Sym:=[.junk,.junk,.junk,.junk,.bp 1 0,.junk,.junk,.junk,.fn 163 [.bp 2 0,.bp 3 0],.junk,.junk,.junk,.junk,.junk,.junk,.junk,.junk]
@[simp] theorem ydk:Sym.los 4 zcq:=by simp [zcq,Sym.los,Sym.lo]
@[simp] theorem ycx:rens (rho' [0,1,2,3] 5) zcq=zcq:=rfl
noncomputable def zdl (s:LoopState) (pd:Option Code):Obj':=.raw (.lp #[9] (rAs Tryz.f93) (rBd Tryz.f93) s pd) zcq
noncomputable def zc8 (l:List Ent) (id:Int):List (Nat×Obj'):=
 [(0,zdl .ready none),(1,.box 55 [.nils]),(2,.box 34 [.d (lexD l)]),(3,.box 3 [.d (int id)])]
noncomputable def ztb (l:List Ent) (id:Int) (ss:List Sens):List (Nat×Obj'):=
 [(0,zdl .done (some .ret)),(1,.box 55 [.d (zbq ss)]),(2,.box 34 [.d (lexD l)]),(3,.box 3 [.d (int id)])]
theorem z2a (l:List Ent) (id:Int) (e:Ent) (he:e.senses=[]) :
  zqm Tryz.prog 0 [.d (.agg e.row)] (zc8 l id) 4 (.d (.bool true)) 4 (zc8 l id) []:=by
 refine zuo (cells:=zcq) (ps:=#[9]) (aS := rAs Tryz.f93) (bd:=rBd Tryz.f93) rfl (by simp) (by simp [zcq]) (by omega) (by simp [Sym.los,Sym.lo]) ?_
 simp +decide [zc8,zdl,zcq,rAs,rBd,zd3,Tryz.f93,Ent.row,int,he,zbq]
theorem z2c (l:List Ent) (id:Int) (e:Ent) (he:e.senses≠[]) (hl:e.senses.length<2^40) :
  zqm Tryz.prog 0 [.d (.agg e.row)] (zc8 l id) 4 (.d (.bool false)) 4 (ztb l id e.senses) []:=by
 refine zuo (cells:=zcq) (ps:=#[9]) (aS := rAs Tryz.f93) (bd:=rBd Tryz.f93) rfl (by simp) (by simp [zcq]) (by omega) (by simp [Sym.los,Sym.lo]) ?_
 have hC:=zu9 e.senses hl
 have hp:(0:Int)<e.senses.length:=by
  have:e.senses.length≠0:=fun e2=>he (List.eq_nil_of_length_eq_zero e2)
  omega
 simp +decide [zc8,ztb,zdl,zcq,rAs,rBd,zd3,Tryz.f93,Ent.row,int,he,hp,zbq]
 intro _
 refine zal.pure (by rfl) hC (by simp [zbq]) ?_
 simp +decide [zc8,ztb,zdl,zcq,int,zbq]
noncomputable def znb:Option (List Sens)→List (Nat×Obj')
 | none=>[(0,zdl .ready none),(1,.box 55 [.nils])]
 | some ss=>[(0,zdl .done (some .ret)),(1,.box 55 [.d (zbq ss)])]
set_option maxHeartbeats 4000000 in
theorem yar (l:List Ent) (id:Int) (hl:l.length<2^40) (hs : ∀ e∈l,e.senses.length<2^40) :
  zcb Tryz.prog 163 [.yd 0,.bp 2 0,.bp 3 0] (zc8 l id) 4 (.d (.tup [])) 4 (znb (wayR l (l.length+1) id)) []:=by
 refine zcb.yf8 (zbg mixed Tryz.func163 rfl call_163 (by simp [Sym.los,Sym.lo]) ?_)
 simp +decide [Tryz.f163,zc8,lexD,int,I64]
 refine ⟨⟨by omega,by omega⟩,?_⟩
 refine zbc mixed (fun x:Nat×Int=>{n:=33,next:=4,base:=4,slots:=[(0,.yd 0),(1,.bp 2 0),(2,.bp 3 0),(8,.d (int (l.length+1))),(9,.d (int x.1))],own:=zc8 l x.2})
  (fun x=>x.1≤l.length+1∧wayR l (l.length+1-x.1) x.2=wayR l (l.length+1) id) (fun x=>l.length+1-x.1) (0,id) (by simp) (by simp +decide [int,lexD,zc8,zdl]) ?_
 rintro ⟨k,i⟩ ⟨hk,hw⟩
 simp only at hk hw
 refine zl2 ?_
 by_cases hlt:k<l.length+1
 case neg=>
  have:k=l.length+1:=by omega
  subst this;rw [Nat.sub_self] at hw;rw [← hw];simp +decide [int,lexD,zc8,zdl,wayR,znb]
 have hlt':(k:Int)<l.length+1:=by omega
 rw [show l.length+1-k=(l.length-k)+1 by omega,wayR] at hw
 have hG:=zox l i hl
 have hmem:(getE l i).2=true→(getE l i).1∈l:=by
  rcases zc7 l i with ⟨_,h2⟩ | ⟨j,hj,_,h2⟩
  ·rw [h2];intro h;cases h
  ·rw [h2];intro _;exact List.getElem_mem hj
 generalize getE l i=g at hw hG hmem
 obtain ⟨e,ok⟩:=g
 simp only at hw hG hmem
 simp +decide [int,lexD,zc8,zdl,hlt,hlt']
 refine zal.pure (by rfl) hG (by simp [lexD,int]) ?_
 cases ok with
 | false=>
  simp only [Bool.false_eq_true,if_false] at hw;rw [← hw];simp +decide [int,lexD,zc8,zdl,znb,Ent.row,hlt,hlt']
 | true=>
  simp only [if_true] at hw;have hem:=hmem rfl;by_cases hes:e.senses=[]
  ·have hR:=z2a l i e hes
   rw [if_neg (by simp [hes])] at hw
   simp +decide [int,lexD,zc8,zdl,Ent.row,hlt,hlt'];refine zqh.to 0 [0,1,2,3] [.d (.agg e.row)] (zc8 l i) (by simp [rho]) (by simp [Ent.row,int]) (by simp [Sym.los,Sym.lo]) (by simp [zc8,zdl,zcq,lexD,int];rfl) hR ?_
   by_cases hm0:e.main=0
   ·rw [if_pos hm0] at hw
    rw [← hw];simp +decide [int,lexD,zc8,zdl,znb,Ent.row,hlt,hlt',hm0]
   ·rw [if_neg hm0] at hw
    simp +decide [int,lexD,zc8,zdl,znb,Ent.row,hlt,hlt',hm0];exact ⟨by unfold I64;omega,k+1,e.main,⟨by omega,by rw [show l.length+1-(k+1)=l.length-k by omega];exact hw⟩,by omega,by omega,rfl⟩
  ·have hR:=z2c l i e hes (hs e hem)
   rw [if_pos hes] at hw;rw [← hw];simp +decide [int,lexD,zc8,zdl,Ent.row,hlt,hlt'];refine zqh.to 0 [0,1,2,3] [.d (.agg e.row)] (zc8 l i) (by simp [rho]) (by simp [Ent.row,int]) (by simp [Sym.los,Sym.lo]) (by simp [zc8,zdl,zcq,lexD,int];rfl) hR ?_
   simp +decide [int,lexD,ztb,zdl,znb,Ent.row,hlt,hlt']
theorem yfc (l:List Ent) (id:Int):zcb Tryz.prog 138 [.d (lexD l),.d (int id)] [] 0 (.fn 163 [.bp 0 0,.bp 1 0]) 2 [(0,.box 34 [.d (lexD l)]),(1,.box 3 [.d (int id)])] []:=by
 refine zbg mixed Tryz.func138 rfl call_138 (by simp [Sym.los,Sym.lo]) ?_
 simp +decide [Tryz.f138,lexD,int]
set_option maxHeartbeats 2000000 in
theorem zoy (l:List Ent) (id:Int) (hl:l.length<2^40) (hs : ∀ e∈l,e.senses.length<2^40):zay Tryz.prog 93 [lexD l,int id] (zbq (zcp l id)):=by
 refine zj4 Tryz.func93 rfl call_93 ?_
 refine zuq mixed 1 {n:=17,next:=1,slots:=[(0,.d (lexD l)),(1,.d (int id)),(4,.bp 0 0)],own:=[(0,.box 55 [.nils])]} rfl ?_ ?_
 ·simp +decide [Tryz.f93,ze4,lexD,int]
 simp only [zfr]
 refine zn0 (zuq mixed 1 {n:=17,next:=3,slots:=[(4,.bp 0 0),(8,.fn 163 [.bp 1 0,.bp 2 0])],own:=[(0,.box 55 [.nils]),(1,.box 34 [.d (lexD l)]),(2,.box 3 [.d (int id)])]} rfl ?_ ?_)
 ·simp +decide [ze4,lexD,int]
  refine zal.mut [] [.d (lexD l),.d (int id)] [] (by rfl) (by simp [lexD,int]) (by simp) (by simp) (yfc l id) ?_
  simp +decide [lexD,int]
 simp only [zfr]
 refine zl4 (zl3 (k:=0) (ids:=[3,0,1,2]) (args0:=[.yd 0,.bp 2 0,.bp 3 0]) (own0:=zc8 l id) (by rfl) (by simp [rho]) (by simp) (by simp [Sym.los,Sym.lo]) ?_ (yar l id hl hs) ?_)
 ·simp +decide [zc8,zdl,zcq,rAs,rBd,zd3,Tryz.f93,int,lexD]
 ·unfold zcp
  cases wayR l (l.length+1) id with
  | none=>
   simp +decide [znb,zdl,int,lexD,zbq]
  | some ss=>
   simp +decide [znb,zdl,int,lexD]
end Go.V
namespace Go.V
open Go Go.Proofs
structure LexFit (l:List Ent):Prop where
 len:l.length<2^40
 alts : ∀ e∈l,e.alts.length<2^39
 form : ∀ e∈l,∀ w∈e.forms,w.length<2^20
 senses : ∀ e∈l,e.senses.length<2^40
theorem zog {l:List Ent} {id:Int} (h:(getE l id).2=true):(getE l id).1∈l:=by
 rcases zc7 l id with ⟨_,h2⟩ | ⟨j,hj,_,h2⟩
 ·rw [h2] at h;cases h
 ·rw [h2];exact List.getElem_mem hj
theorem z5h {l:List Ent} (h:LexFit l) (id:Int):(getE l id).1.alts.length<2^39:=by
 cases hb:(getE l id).2 with
 | true=>exact h.alts _ (zog hb)
 | false=>
  rcases zc7 l id with ⟨_,h2⟩ | ⟨j,hj,_,h2⟩
  ·rw [h2];simp [Ent.zero]
  ·rw [h2] at hb;cases hb
theorem zva (e:Ent) (h:e.alts.length<2^40):zay Tryz.prog 104 [.agg e.row] (zbh e.forms):=by
 refine zaa mixed Tryz.func104 rfl call_104 ?_
 simp [Tryz.f104,Ent.row,zbh,ints,Ent.forms,maxLen]
 omega
def zak:D→List Sym
 | .agg l=>l.map .d
 | _=>[]
def zf6 (l:List Ent) (p:Prt):Ent×List Int×Bool:=
 if (getE l p.entry).2=true∧0≤p.alt∧p.alt<(getE l p.entry).1.forms.length then ((getE l p.entry).1,((getE l p.entry).1.forms[p.alt.toNat]?.getD []),true) else ((getE l p.entry).1,[],false)
def zn7 (r:Ent×List Int×Bool):D:=.tup [.agg r.1.row,ints r.2.1,.bool r.2.2]
set_option maxHeartbeats 4000000 in
theorem zx7 (g:Lang) (hg:LexFit g.lex) (p:Prt):zay Tryz.prog 63 [g.d,.agg p.row] (zn7 (zf6 g.lex p)):=by
 have hG:=zox g.lex p.entry hg.len
 have hA:=z5h hg p.entry
 unfold zf6
 generalize getE g.lex p.entry=r at hG hA
 obtain ⟨e,ok⟩:=r
 simp only at hG hA
 have hF:=zva e (by omega)
 have hfl:e.forms.length=e.alts.length+1:=by simp [Ent.forms]
 refine zaa mixed Tryz.func63 rfl call_63 ?_
 simp +decide [Tryz.f63,Lang.d,Prt.row,int]
 refine zal.pure (by rfl) hG (by simp [lexD,int]) ?_
 simp +decide [int,Ent.row]
 refine zal.pure (by rfl) hF (by simp [lexD,int]) ?_
 cases ok with
 | false=>
  simp +decide [int,Ent.row,zn7,ints]
 | true=>
  by_cases h0:p.alt<0
  ·have h0':¬ 0≤p.alt:=by omega
   simp +decide [int,Ent.row,zn7,ints,h0,h0'];done
  have h0':0≤p.alt:=by omega
  by_cases h1:p.alt<e.forms.length
  ·have hlt:p.alt.toNat<e.forms.length:=by omega
   obtain ⟨w,ew⟩ : ∃ w,e.forms[p.alt.toNat]=w:=⟨_,rfl⟩;have e1:e.forms[p.alt.toNat]?=some w:=by rw [List.getElem?_eq_getElem hlt,ew]
   have h1':¬(e.forms.length:Int)≤p.alt:=by omega
   simp +decide [int,Ent.row,zbh,zn7,h0,h0',h1,h1',e1,ew];refine ydc mixed 6 2 (by rfl) rfl rfl rfl rfl (by rfl) (by simp) ?_
   simp +decide [int,Ent.row,zbh,zn7,ints,h0,h0',h1,h1',e1,ew,hlt]
  ·have h1':(e.forms.length:Int)≤p.alt:=by omega
   simp +decide [int,Ent.row,zbh,zn7,ints,h0,h0',h1,h1']
end Go.V
namespace Go.V
open Go Go.Proofs
def zaz (l:List Ent) (ps:List Prt):List Int:=ps.flatMap fun p=>if (zf6 l p).2.2=true then [(zf6 l p).1.cls] else []
def zba (l:List Ent) (ps:List Prt):List Int:=ps.flatMap fun p=>if (zf6 l p).2.2=true then (zf6 l p).2.1 else []
theorem ztc {l:List Ent} {ps:List Prt} {k:Nat} (h:k<ps.length):zaz l (ps.take (k+1))=zaz l (ps.take k)++(if (zf6 l ps[k]).2.2=true then [(zf6 l ps[k]).1.cls] else []):=by
 unfold zaz;rw [zam h,List.flatMap_append,List.flatMap_singleton]
theorem z2d {l:List Ent} {ps:List Prt} {k:Nat} (h:k<ps.length):zba l (ps.take (k+1))=zba l (ps.take k)++(if (zf6 l ps[k]).2.2=true then (zf6 l ps[k]).2.1 else []):=by
 unfold zba;rw [zam h,List.flatMap_append,List.flatMap_singleton]
theorem zh2 (l:List Ent) : ∀ ps:List Prt,(zaz l ps).length≤ps.length
 | []=>by simp [zaz]
 | p::ps=>by
  have:=zh2 l ps
  unfold zaz at this ⊢;rw [List.flatMap_cons,List.length_append,List.length_cons];split <;> simp only [List.length_singleton,List.length_nil] <;> omega
theorem zvb {l:List Ent} (h:LexFit l) (p:Prt):(zf6 l p).2.1.length<2^20:=by
 unfold zf6
 split
 ·rename_i hc
  have hlt:p.alt.toNat<(getE l p.entry).1.forms.length:=by omega
  show ((getE l p.entry).1.forms[p.alt.toNat]?.getD []).length<_
  rw [List.getElem?_eq_getElem hlt];exact h.form _ (zog hc.1) _ (List.getElem_mem hlt)
 ·simp
theorem zoz {l:List Ent} (h:LexFit l) : ∀ ps:List Prt,(zba l ps).length≤ps.length*2^20
 | []=>by simp [zba]
 | p::ps=>by
  have h1:=zoz h ps;have h2:=zvb h p;unfold zba at h1 ⊢;rw [List.flatMap_cons,List.length_append,List.length_cons,Nat.add_mul];split
  ·omega
  ·simp only [List.length_nil];omega
set_option maxHeartbeats 4000000 in
theorem z2e (g:Lang) (hg:LexFit g.lex) (ps:List Prt) (hp:ps.length<2^20):zay Tryz.prog 101 [g.d,anaD ps] (ints (zaz g.lex ps)):=by
 refine zaa mixed Tryz.func101 rfl call_101 ?_
 simp +decide [Tryz.f101,Lang.d,anaD,zad,int]
 refine zaf mixed (fun k:Nat=>{n:=33,next:=4,slots:=[(2,.bp 0 0),(5,.ar 3),(12,.d (zad ps)),(13,.d (int ps.length)),(14,.d (int k))],own:=[(0,.box 36 (zak g.d)),(3,.arr 3 1 ((zaz g.lex (ps.take k)).map fun n=>[int n]))],moved:=[3]})
  (fun k=>k≤ps.length) (fun k=>ps.length-k) 0 (by simp) (by simp +decide [int,zad,zaz,zak,Lang.d]) ?_
 intro k hk
 by_cases hlt:k<ps.length
 case neg=>
  have:k=ps.length:=by omega
  subst this;rw [List.take_length];simp +decide [int,ints,zad]
 have hlt':(k:Int)<ps.length:=by omega
 have hsn:=ztc (l:=g.lex) hlt
 have hlen:=zh2 g.lex (ps.take k)
 rw [List.length_take] at hlen
 obtain ⟨p,ep⟩ : ∃ p,ps[k]=p:=⟨_,rfl⟩
 have e1:ps[k]?=some p:=by rw [List.getElem?_eq_getElem hlt,ep]
 rw [ep] at hsn
 have hF:=zx7 g hg p
 generalize zf6 g.lex p=r at hF hsn
 obtain ⟨e,w,ok⟩:=r
 simp only at hsn
 simp +decide [int,zad,Prt.row,hlt,hlt',e1,ep,I64,zak,Lang.d]
 refine zal.pure (by rfl) hF (by simp [Lang.d,Prt.row,int]) ?_
 cases ok with
 | false=>
  simp only [Bool.false_eq_true,if_false,List.append_nil] at hsn;simp +decide [zn7,int,ints,Ent.row,zad,Prt.row,I64,zak,Lang.d];exact ⟨⟨by omega,by omega⟩,k+1,hlt,by omega,by omega,by rw [hsn]⟩
 | true=>
  simp only [if_true] at hsn;simp +decide [zn7,int,ints,Ent.row,zad,Prt.row,I64,zak,Lang.d];exact ⟨by omega,by unfold maxLen;omega,⟨by omega,by omega⟩,k+1,hlt,by omega,by omega,by rw [hsn];simp⟩
set_option maxHeartbeats 4000000 in
theorem z5i (g:Lang) (hg:LexFit g.lex) (ps:List Prt) (hp:ps.length<2^20):zay Tryz.prog 29 [g.d,anaD ps] (ints (zba g.lex ps)):=by
 refine zaa mixed Tryz.func29 rfl call_29 ?_
 simp +decide [Tryz.f29,Lang.d,anaD,zad,int]
 refine zaf mixed (fun k:Nat=>{n:=31,next:=4,slots:=[(2,.bp 0 0),(5,.ar 3),(12,.d (zad ps)),(13,.d (int ps.length)),(14,.d (int k))],own:=[(0,.box 36 (zak g.d)),(3,.arr 3 1 ((zba g.lex (ps.take k)).map fun n=>[int n]))],moved:=[3]})
  (fun k=>k≤ps.length) (fun k=>ps.length-k) 0 (by simp) (by simp +decide [int,zad,zba,zak,Lang.d]) ?_
 intro k hk
 by_cases hlt:k<ps.length
 case neg=>
  have:k=ps.length:=by omega
  subst this;rw [List.take_length];simp +decide [int,ints,zad]
 have hlt':(k:Int)<ps.length:=by omega
 have hsn:=z2d (l:=g.lex) hlt
 have hlen:=zoz hg (ps.take k)
 rw [List.length_take] at hlen
 obtain ⟨p,ep⟩ : ∃ p,ps[k]=p:=⟨_,rfl⟩
 have e1:ps[k]?=some p:=by rw [List.getElem?_eq_getElem hlt,ep]
 rw [ep] at hsn
 have hF:=zx7 g hg p
 have hFl:=zvb hg p
 generalize zf6 g.lex p=r at hF hsn hFl
 obtain ⟨e,w,ok⟩:=r
 simp only at hsn hFl
 simp +decide [int,zad,Prt.row,hlt,hlt',e1,ep,I64,zak,Lang.d]
 refine zal.pure (by rfl) hF (by simp [Lang.d,Prt.row,int]) ?_
 cases ok with
 | false=>
  simp only [Bool.false_eq_true,if_false,List.append_nil] at hsn;simp +decide [zn7,int,ints,Ent.row,zad,Prt.row,I64,zak,Lang.d];exact ⟨⟨by omega,by omega⟩,k+1,hlt,by omega,by omega,by rw [hsn]⟩
 | true=>
  simp only [if_true] at hsn;simp +decide [zn7,int,ints,Ent.row,zad,Prt.row,I64,zak,Lang.d];exact ⟨by omega,by unfold maxLen;omega,⟨by omega,by omega⟩,k+1,hlt,by omega,by omega,by rw [hsn];simp⟩
end Go.V
namespace Go.V
open Go Go.Proofs
def idxL (l:List Int) (x:Int):Int:=match l.findIdx? (· = x) with
 | some k=>k
 | none=>-1
theorem z0h (l:List Int) (x:Int):(0≤idxL l x↔x∈l):=by
 unfold idxL
 cases h:l.findIdx? (· = x) with
 | none=>
  rw [List.findIdx?_eq_none_iff] at h;constructor
  ·intro e;change (0:Int)≤-1 at e;omega
  ·intro e;have:=h x e;simp at this
 | some k=>
  rw [List.findIdx?_eq_some_iff_getElem] at h;obtain ⟨h1,h2,_⟩:=h;constructor
  ·intro _;have h3:l[k]=x:=by simpa using h2
   rw [← h3];exact List.getElem_mem h1
  ·intro _;exact Int.natCast_nonneg k
theorem z0i (l:List Int) (x:Int) (hl:l.length<2^62):zay Tryz.prog 148 [ints l,int x] (int (idxL l x)):=by
 refine zaa mixed Tryz.func148 rfl call_148 ?_
 simp [Tryz.f148,ints]
 refine zaf mixed (fun k:Nat=>{n:=19,next:=0,slots:=[(0,.d (ints l)),(1,.d (int x)),(6,.d (ints l)),(7,.d (.int .i64 l.length)),(8,.d (.int .i64 k))],own:=[]})
  (fun k=>k≤l.length∧∀ y∈l.take k,y≠x) (fun k=>l.length-k) 0 (by simp) (by simp [ints,int]) ?_
 intro k ⟨hk,hp⟩
 by_cases hlt:k<l.length
 ·have hlt':(k:Int)<l.length:=by omega
  obtain ⟨c,ec⟩ : ∃ c,l[k]=c:=⟨_,rfl⟩;have e1:l[k]?=some c:=by rw [List.getElem?_eq_getElem hlt,ec]
  by_cases hx:c=x
  ·have hf:l.findIdx? (· = x)=some k:=by
    rw [List.findIdx?_eq_some_iff_getElem];refine ⟨hlt,by simpa [ec] using hx,fun j hj=>?_⟩
    have:=hp l[j] (by rw [List.mem_take_iff_getElem];exact ⟨j,by omega,rfl⟩)
    simpa using this
   subst hx;simp +decide [ints,int,e1,ec,hlt,hlt',I64,idxL,hf]
  ·have hx':¬ x=c:=fun e=>hx e.symm
   simp +decide [ints,int,e1,ec,hlt,hlt',hx,hx',I64];exact ⟨⟨by omega,by omega⟩,k+1,⟨hlt,zi4 hlt hp (by rw [ec];exact hx)⟩,by omega,by omega⟩
 ·have:k=l.length:=by omega
  subst this;have hf:l.findIdx? (· = x)=none:=by
   rw [List.findIdx?_eq_none_iff];intro y hy;have:=hp y (by rwa [List.take_length]);simpa using this
  simp +decide [ints,int,idxL,hf]
theorem zvc (l:List Int) (x:Int) (hl:l.length<2^62):zay Tryz.prog 180 [ints l,int x] (.bool (decide (x∈l))):=by
 refine zaa mixed Tryz.func180 rfl call_180 ?_
 simp +decide [Tryz.f180,int,ints]
 refine zal.pure (by rfl) (z0i l x hl) (fun _=>rfl) ?_
 have:=z0h l x
 simp +decide [int,this]
theorem z5j (l:List Int) (x:Int) (hl:l.length<2^62):zay Tryz.prog 167 [ints l,int x] (.bool (decide (x∈l))):=by
 refine zaa mixed Tryz.func167 rfl call_167 ?_
 simp +decide [Tryz.f167,int,ints]
 refine zal.pure (by rfl) (zvc l x hl) (by simp) ?_
 simp +decide [int]
def ctxD (inv:List Phon) (cs:List Cls):D:=.agg [invD inv,clsD cs]
theorem yas (inv:List Phon) (cs:List Cls) (k:Nat) (hk:k<cs.length) (n:Int) (hl:inv.length<2^62):zay Tryz.prog 169 [ctxD inv cs,int k,int n] (.bool (zu6 inv n cs[k])):=by
 have hk':(k:Int)<cs.length:=by omega
 obtain ⟨c,ec⟩ : ∃ c,cs[k]=c:=⟨_,rfl⟩
 have e1:cs[k]?=some c:=by rw [List.getElem?_eq_getElem hk,ec]
 rw [ec]
 refine zaa mixed Tryz.func169 rfl call_169 ?_
 simp +decide [Tryz.f169,int,ctxD,clsD,Cls.row,hk,hk',e1,ec]
 refine zah (by rfl) (by rfl) (ygh inv n c hl) (by simp [int,Cls.row]) ?_
 simp +decide [int]
def zvd (inv:List Phon) (cs:List Cls) (ws:List Int):Bool:=(ws.zip cs).all fun x=>zu6 inv x.1 x.2
theorem yat {α β:Type} {a:List α} {b:List β} {k:Nat} (h:k<a.length) (h':k<b.length):(a.take (k+1)).zip (b.take (k+1))=(a.take k).zip (b.take k)++[(a[k],b[k])]:=by
 rw [zam h,zam h',List.zip_append (by rw [List.length_take,List.length_take];omega)];rfl
theorem z5k (inv:List Phon) (cs:List Cls) (ws:List Int) (hw:ws.length=cs.length) (hl:inv.length<2^62) (hc:cs.length<2^62) :
  zay Tryz.prog 168 [.fn 169 [],ctxD inv cs,ints ws] (.bool (zvd inv cs ws)):=by
 refine zaa mixed Tryz.func168 rfl call_168 ?_
 simp +decide [Tryz.f168,int,ctxD,ints]
 refine zaf mixed (fun k:Nat=>{n:=23,next:=1,slots:=[(0,.d (.fn 169 [])),(4,.bp 0 0),(9,.d (ints ws)),(10,.d (.int .i64 ws.length)),(11,.d (.int .i64 k))],own:=[(0,.box 212 [.d (invD inv),.d (clsD cs)])]})
  (fun k=>k≤ws.length∧((ws.take k).zip (cs.take k)).all (fun x=>zu6 inv x.1 x.2)=true) (fun k=>ws.length-k) 0 (by simp) (by simp [ints,int]) ?_
 intro k ⟨hk,hp⟩
 by_cases hlt:k<ws.length
 ·have hlt':(k:Int)<ws.length:=by omega
  have hlc:k<cs.length:=by omega
  have hI:=yas inv cs k hlc ws[k] hl;have hsn:=yat hlt hlc;obtain ⟨c,ec⟩ : ∃ c,ws[k]=c:=⟨_,rfl⟩;have e1:ws[k]?=some c:=by rw [List.getElem?_eq_getElem hlt,ec]
  rw [ec] at hI hsn;simp +decide [ints,int,e1,ec,hlt,hlt',I64];refine zal.pure (by rfl) hI (by simp [ctxD,int]) ?_
  cases hb:zu6 inv c cs[k] with
  | true=>
   simp +decide [ints,int,I64];refine ⟨⟨by omega,by omega⟩,k+1,⟨hlt,?_⟩,by omega,by omega⟩
   intro x y hxy;have hall:((ws.take (k+1)).zip (cs.take (k+1))).all (fun x=>zu6 inv x.1 x.2)=true:=by rw [hsn,List.all_append,hp,Bool.true_and];simp [hb]
   exact List.all_eq_true.1 hall (x,y) hxy
  | false=>
   have hf:zvd inv cs ws=false:=by
    unfold zvd;rw [List.all_eq_false];refine ⟨(c,cs[k]),?_,by rw [hb];decide⟩
    rw [List.mem_iff_getElem];exact ⟨k,by rw [List.length_zip];omega,by rw [List.getElem_zip,ec]⟩
   simp +decide [ints,int,I64,hf]
 ·have:k=ws.length:=by omega
  subst this;rw [List.take_length,hw,List.take_length] at hp;have hf:zvd inv cs ws=true:=hp
  simp +decide [ints,int,hf]
end Go.V
namespace Go.V
open Go Go.Proofs
def ztd (inv:List Phon) (r:Rule) (w:List Int) (k:Nat):Bool:=
 decide (w[k]?.getD 0∈r.src)&&decide (r.left.length≤k)&&decide (k+1+r.right.length≤w.length) && !(r.beg&&decide (r.left.length<k)) && !(r.fin&&decide (k+1+r.right.length<w.length)) &&
  zvd inv r.left ((w.take k).drop (k-r.left.length))&&zvd inv r.right ((w.take (k+1+r.right.length)).drop (k+1))
structure RuleFit (r:Rule):Prop where
 src:r.src.length<2^40
 left:r.left.length<2^40
 right:r.right.length<2^40
set_option maxHeartbeats 4000000 in
theorem ydl (inv:List Phon) (hl:inv.length<2^62) (r:Rule) (hr:RuleFit r) (w:List Int) (hw:w.length<2^40) (k:Nat) (hk:k<w.length) :
  zay Tryz.prog 147 [.agg [invD inv],.agg r.row,ints w,int k] (.bool (ztd inv r w k)):=by
 obtain ⟨h1,h2,h3⟩:=hr
 obtain ⟨x,ex⟩ : ∃ x,w[k]=x:=⟨_,rfl⟩
 have e1:w[k]?=some x:=by rw [List.getElem?_eq_getElem hk,ex]
 have hk':(k:Int)<w.length:=by omega
 have hH:=z5j r.src x (by omega)
 obtain ⟨R,hR⟩ : ∃ R,ztd inv r w k=R:=⟨_,rfl⟩
 rw [hR]
 unfold ztd at hR
 rw [e1,Option.getD_some] at hR
 refine zaa mixed Tryz.func147 rfl call_147 ?_
 obtain ⟨src,dst,left,right,beg,fin⟩:=r
 simp only at h1 h2 h3 hH hR
 simp +decide [Tryz.f147,int,Rule.row,clsD,I64]
 refine ⟨by omega,by omega,by omega,?_⟩
 simp +decide [ints,e1,ex,hk,hk']
 refine zah (by rfl) (by rfl) hH (by simp [int,ints]) ?_
 by_cases hx:x∈src
 case neg=>
  have:R=false:=by rw [← hR];simp [hx]
  subst this;simp +decide [int,hx]
 by_cases hf:left.length≤k
 case neg=>
  have:R=false:=by rw [← hR];simp [hf]
  subst this;have hf':(k:Int)-left.length<0:=by omega
  simp +decide [int,hx,hf,hf']
 have hf':¬(k:Int)-left.length<0:=by omega
 by_cases ht:k+1+right.length≤w.length
 case neg=>
  have:R=false:=by rw [← hR];simp [ht]
  subst this;have ht':(w.length:Int)<k+1+right.length:=by omega
  simp +decide [int,hx,hf,hf',ht,ht']
 have ht':¬(w.length:Int)<k+1+right.length:=by omega
 by_cases hb:beg=true∧left.length<k
 case pos=>
  obtain ⟨hb1,hb2⟩:=hb;subst hb1;have:R=false:=by rw [← hR];simp [hb2]
  subst this;have hb':(0:Int)<(k:Int)-left.length:=by omega
  simp +decide [int,hx,hf,hf',ht,ht',hb',hb2]
 have hb2:(beg&&decide (left.length<k))=false:=by
  cases beg
  ·rfl
  ·simp at hb;simp [hb]
 by_cases he:fin=true∧k+1+right.length<w.length
 case pos=>
  obtain ⟨he1,he2⟩:=he;subst he1;have:R=false:=by rw [← hR];simp [he2]
  subst this;have he':(k:Int)+1+right.length<w.length:=by omega
  cases beg
  ·simp +decide [int,hx,hf,hf',ht,ht',he',he2]
  ·have hb':¬(0:Int)<(k:Int)-left.length:=by simp at hb;omega
   simp +decide [int,hx,hf,hf',ht,ht',he',he2,hb']
 have he2:(fin&&decide (k+1+right.length<w.length))=false:=by
  cases fin
  ·rfl
  ·simp at he;simp [he]
 have hL1:((w.take k).drop (k-left.length)).length=left.length:=by rw [List.length_drop,List.length_take];omega
 have hR1:((w.take (k+1+right.length)).drop (k+1)).length=right.length:=by rw [List.length_drop,List.length_take];omega
 have hFl:=z5k inv left _ hL1 hl (by omega)
 have hFr:=z5k inv right _ hR1 hl (by omega)
 have eL : ∀ a b,ints ((w.take a).drop b) = .sl (((w.map fun n=>[D.int .i64 n]).take a).drop b):=fun a b=>by simp [ints,List.map_drop,List.map_take]
 rw [eL] at hFl hFr
 rw [hb2,he2] at hR
 generalize zvd inv left ((w.take k).drop (k-left.length))=b1 at hFl hR
 generalize zvd inv right ((w.take (k+1+right.length)).drop (k+1))=b2 at hFr hR
 have hR:R=(b1&&b2):=by rw [← hR];simp [hx,hf,ht]
 subst hR
 have hbeg:beg=true→¬(0:Int)<(k:Int)-left.length:=by
  intro e;subst e;simp at hb;omega
 have hfin:fin=true→¬(k:Int)+1+right.length<w.length:=by
  intro e;subst e;simp at he;omega
 have ek:((k:Int)+1+right.length).toNat=k+1+right.length:=by omega
 have ek1:((k:Int)+1).toNat=k+1:=by omega
 rw [← ek] at hFr
 cases beg with
 | false=>
  cases fin with
  | false=>
   simp +decide [int,hx,hf,hf',ht,ht'];refine ⟨⟨by omega,by omega⟩,?_⟩
   refine zah (by rfl) (by rfl) hFl (by simp [int,ints]) ?_
   cases b1 with
   | false=>simp +decide [int]
   | true=>
    simp +decide [int,ints,I64];refine ⟨⟨by omega,by omega⟩,⟨by omega,by omega,by omega⟩,?_⟩
    refine zah (by rfl) (by rfl) hFr (by simp [int,ints]) ?_
    simp +decide [int]
  | true=>
   have:=hfin rfl
   simp +decide [int,hx,hf,hf',ht,ht',this];refine ⟨⟨by omega,by omega⟩,?_⟩
   refine zah (by rfl) (by rfl) hFl (by simp [int,ints]) ?_
   cases b1 with
   | false=>simp +decide [int]
   | true=>
    simp +decide [int,ints,I64];refine ⟨⟨by omega,by omega⟩,⟨by omega,by omega,by omega⟩,?_⟩
    refine zah (by rfl) (by rfl) hFr (by simp [int,ints]) ?_
    simp +decide [int]
 | true=>
  have hb':=hbeg rfl;have hb3:¬ left.length<k:=by omega
  cases fin with
  | false=>
   simp +decide [int,hx,hf,hf',ht,ht',hb',hb3];refine ⟨⟨by omega,by omega⟩,?_⟩
   refine zah (by rfl) (by rfl) hFl (by simp [int,ints]) ?_
   cases b1 with
   | false=>simp +decide [int]
   | true=>
    simp +decide [int,ints,I64];refine ⟨⟨by omega,by omega⟩,⟨by omega,by omega,by omega⟩,?_⟩
    refine zah (by rfl) (by rfl) hFr (by simp [int,ints]) ?_
    simp +decide [int]
  | true=>
   have:=hfin rfl
   simp +decide [int,hx,hf,hf',ht,ht',hb',hb3,this];refine ⟨⟨by omega,by omega⟩,?_⟩
   refine zah (by rfl) (by rfl) hFl (by simp [int,ints]) ?_
   cases b1 with
   | false=>simp +decide [int]
   | true=>
    simp +decide [int,ints,I64];refine ⟨⟨by omega,by omega⟩,⟨by omega,by omega,by omega⟩,?_⟩
    refine zah (by rfl) (by rfl) hFr (by simp [int,ints]) ?_
    simp +decide [int]
def segE (inv:List Phon) (r:Rule) (w:List Int) (k:Nat) (x:Int):List Int:=
 if ztd inv r w k=true then (if r.dst[(idxL r.src x).toNat]?.getD 0=0 then [] else [r.dst[(idxL r.src x).toNat]?.getD 0]) else [x]
def zgh (inv:List Phon) (r:Rule) (w:List Int):List Int:=(w.zipIdx.map fun x=>segE inv r w x.2 x.1).flatten
theorem zx8 {α:Type} {l:List α} {k:Nat} (h:k<l.length):l.zipIdx.take (k+1)=l.zipIdx.take k++[(l[k],k)]:=by
 have h':k<l.zipIdx.length:=by simpa using h
 rw [zam h']
 simp
def zk2 (inv:List Phon) (r:Rule) (w:List Int) (k:Nat):List Int:=((w.zipIdx.take k).map fun x=>segE inv r w x.2 x.1).flatten
theorem zo0 {inv:List Phon} {r:Rule} {w:List Int} {k:Nat} (h:k<w.length):zk2 inv r w (k+1)=zk2 inv r w k++segE inv r w k w[k]:=by
 unfold zk2;rw [zx8 h,List.map_append,List.flatten_append];simp
theorem yau (inv:List Phon) (r:Rule) (w:List Int) (k:Nat) (x:Int):(segE inv r w k x).length≤1:=by
 unfold segE;split
 ·split <;> simp
 ·simp
theorem zmd (inv:List Phon) (r:Rule) (w:List Int) : ∀ k,k≤w.length→(zk2 inv r w k).length≤k
 | 0,_=>by simp [zk2]
 | k+1,h=>by
  rw [zo0 (by omega),List.length_append]
  have h1:=zmd inv r w k (by omega)
  have h2:=yau inv r w k (w[k]'(by omega))
  omega
theorem zro (inv:List Phon) (r:Rule) (w:List Int):zk2 inv r w w.length=zgh inv r w:=by
 unfold zk2 zgh
 rw [List.take_of_length_le (by simp)]
structure RuleOk (r:Rule):Prop extends RuleFit r where
 dst:r.dst.length=r.src.length
set_option maxHeartbeats 4000000 in
theorem yav (inv:List Phon) (hl:inv.length<2^62) (r:Rule) (hr:RuleOk r) (w:List Int) (hw:w.length<2^40) :
  zay Tryz.prog 102 [.agg [invD inv],.agg r.row,ints w] (ints (zgh inv r w)):=by
 rw [← zro]
 refine zaa mixed Tryz.func102 rfl call_102 ?_
 simp +decide [Tryz.f102,int,ints,Rule.row]
 refine zaf mixed (fun k:Nat=>{n:=38,next:=4,slots:=[(2,.d (ints w)),(3,.bp 0 0),(4,.bp 1 0),(7,.ar 3),(10,.d (ints w)),(11,.d (int w.length)),(12,.d (int k))],own:=[(0,.box 24 [.d (invD inv)]),(1,.box 77 (r.row.map .d)),(3,.arr 3 1 ((zk2 inv r w k).map fun n=>[int n]))],moved:=[3]})
  (fun k=>k≤w.length) (fun k=>w.length-k) 0 (by simp) (by simp +decide [int,ints,Rule.row,zk2]) ?_
 intro k hk
 by_cases hlt:k<w.length
 case neg=>
  have:k=w.length:=by omega
  subst this;simp +decide [int,ints]
 have hlt':(k:Int)<w.length:=by omega
 have hsn:=zo0 (inv:=inv) (r:=r) hlt
 have hlen:=zmd inv r w k hk
 have hS:=ydl inv hl r hr.toRuleFit w hw k hlt
 obtain ⟨x,ex⟩ : ∃ x,w[k]=x:=⟨_,rfl⟩
 have e1:w[k]?=some x:=by rw [List.getElem?_eq_getElem hlt,ex]
 rw [ex] at hsn
 have hI:=z0i r.src x (by have:=hr.src;omega)
 have hmem:=z0h r.src x
 have hidx:x∈r.src→∃ j:Nat,j<r.src.length∧idxL r.src x=j:=by
  intro hx;unfold idxL at hmem ⊢;cases hq:r.src.findIdx? (· = x) with
  | none=>rw [hq] at hmem;exact absurd (hmem.2 hx) (by decide)
  | some j=>
   rw [List.findIdx?_eq_some_iff_getElem] at hq;exact ⟨j,hq.1,rfl⟩
 have hsite:ztd inv r w k=true→x∈r.src:=by
  intro h;unfold ztd at h;simp only [Bool.and_eq_true,decide_eq_true_eq] at h;have:=h.1.1.1.1.1.1
  rwa [e1,Option.getD_some] at this
 have hdst:=hr.dst
 unfold segE at hsn
 simp +decide [int,ints,Rule.row,hlt,hlt',e1,ex,I64]
 refine zal.pure (by rfl) hS (by simp) ?_
 cases hb:ztd inv r w k with
 | false=>
  rw [hb] at hsn;simp only [Bool.false_eq_true,if_false] at hsn;simp +decide [int,ints,Rule.row,I64];exact ⟨by omega,by unfold maxLen;omega,⟨by omega,by omega⟩,k+1,hlt,by omega,by omega,by rw [hsn];simp⟩
 | true=>
  rw [hb] at hsn;simp only [if_true] at hsn;obtain ⟨j,hj,ej⟩:=hidx (hsite hb);have hjd:j<r.dst.length:=by omega
  obtain ⟨y,ey⟩ : ∃ y,r.dst[j]=y:=⟨_,rfl⟩;have e2:r.dst[j]?=some y:=by rw [List.getElem?_eq_getElem hjd,ey]
  rw [ej,Int.toNat_natCast,e2,Option.getD_some] at hsn;rw [ej] at hI;have hj':(j:Int)<r.dst.length:=by omega
  simp +decide [int,ints,Rule.row,I64];refine zah (by rfl) (by rfl) hI (by simp [int]) ?_
  simp +decide [int,ints,Rule.row,hjd,hj',e2,ey,I64];by_cases hy:y=0
  ·rw [if_pos hy,List.append_nil] at hsn
   simp +decide [int,ints,Rule.row,hy,I64];exact ⟨⟨by omega,by omega⟩,k+1,hlt,by omega,by omega,by rw [hsn]⟩
  ·rw [if_neg hy] at hsn
   simp +decide [int,ints,Rule.row,hy,I64];exact ⟨by omega,by unfold maxLen;omega,⟨by omega,by omega⟩,k+1,hlt,by omega,by omega,by rw [hsn];simp⟩
theorem z2f (inv:List Phon) (r:Rule) (w:List Int):(zgh inv r w).length≤w.length:=by
 rw [← zro];exact zmd inv r w _ (Nat.le_refl _)
def zd6 (inv:List Phon) (rs:List Rule) (w:List Int):List Int:=rs.foldl (fun w r=>zgh inv r w) w
theorem zgi (inv:List Phon) : ∀ (rs:List Rule) (w:List Int),(zd6 inv rs w).length≤w.length
 | [],w=>Nat.le_refl _
 | r::rs,w=>by
  have h1:=zgi inv rs (zgh inv r w);have h2:=z2f inv r w;unfold zd6 at h1 ⊢;rw [List.foldl_cons];omega
set_option maxHeartbeats 2000000 in
theorem z5l (inv:List Phon) (hl:inv.length<2^62) (rs:List Rule) (hr : ∀ r∈rs,RuleOk r) (hn:rs.length<2^40) (w:List Int) (hw:w.length<2^40) :
  zay Tryz.prog 61 [.agg [invD inv],zb5 rs,ints w] (ints (zd6 inv rs w)):=by
 refine zaa mixed Tryz.func61 rfl call_61 ?_
 simp +decide [Tryz.f61,int,ints,zb5]
 refine zaf mixed (fun k:Nat=>{n:=21,next:=2,slots:=[(2,.d (ints (zd6 inv (rs.take k) w))),(3,.bp 0 0),(9,.d (zb5 rs)),(10,.d (int rs.length)),(11,.d (int k))],own:=[(0,.box 24 [.d (invD inv)])]})
  (fun k=>k≤rs.length) (fun k=>rs.length-k) 0 (by simp) (by simp +decide [int,ints,zb5,zd6]) ?_
 intro k hk
 by_cases hlt:k<rs.length
 case neg=>
  have:k=rs.length:=by omega
  subst this;rw [List.take_length];simp +decide [int,ints,zb5]
 have hlt':(k:Int)<rs.length:=by omega
 have hsn:zd6 inv (rs.take (k+1)) w=zgh inv rs[k] (zd6 inv (rs.take k) w):=by unfold zd6;rw [zam hlt,List.foldl_append];rfl
 have hll:=zgi inv (rs.take k) w
 have hro:=hr rs[k] (List.getElem_mem hlt)
 obtain ⟨r,er⟩ : ∃ r,rs[k]=r:=⟨_,rfl⟩
 have e1:rs[k]?=some r:=by rw [List.getElem?_eq_getElem hlt,er]
 rw [er] at hsn hro
 generalize zd6 inv (rs.take k) w=u at hsn hll
 have hA:=yav inv hl r hro u (by omega)
 simp +decide [int,ints,zb5,Rule.row,hlt,hlt',e1,er,I64]
 refine zal.pure (by rfl) hA (by simp [Rule.row,int]) ?_
 simp +decide [int,ints,zb5,Rule.row,I64]
 exact ⟨⟨by omega,by omega⟩,k+1,hlt,by omega,by rw [hsn],by omega⟩
end Go.V
namespace Go.V
open Go Go.Proofs
structure LangOk (g:Lang):Prop where
 lex:LexFit g.lex
 inv:g.inv.length<2^40
 rules:(∀ r∈g.rules,RuleOk r)∧g.rules.length<2^40
 net:ydj g.net
def zh3 (l:List Ent) (p:Prt):Int:=
 if (getE l p.entry).2=false then 9 else if (zf6 l p).2.2=false then 2 else if p.sense<0∨(zcp l p.entry).length≤p.sense then 22 else 0
def zfe (l:List Ent):List Prt→Int
 | []=>0
 | p::ps=>if zh3 l p=0 then zfe l ps else zh3 l p
theorem zx9 {l:List Ent} {ps:List Prt} {k:Nat} (h:k<ps.length):zfe l (ps.drop k)=if zh3 l ps[k]=0 then zfe l (ps.drop (k+1)) else zh3 l ps[k]:=by
 rw [List.drop_eq_getElem_cons h];rfl
def zff (g:Lang) (ps:List Prt):Int:=
 if ps.length=0 then 4 else if 4<ps.length then 11 else if zfe g.lex ps≠0 then zfe g.lex ps else if zej g.net (zaz g.lex ps)=false then 21 else if 24<(zba g.lex ps).length then 5 else 0
set_option maxHeartbeats 8000000 in
theorem z2g (g:Lang) (hg:LangOk g) (ps:List Prt) (hp:ps.length<2^20):zay Tryz.prog 60 [g.d,anaD ps] (int (zff g ps)):=by
 refine zaa mixed Tryz.func60 rfl call_60 ?_
 obtain ⟨R,hR⟩ : ∃ R,zff g ps=R:=⟨_,rfl⟩
 rw [hR]
 unfold zff at hR
 by_cases h0:ps.length=0
 ·rw [if_pos h0] at hR
  subst hR;simp +decide [Tryz.f60,Lang.d,anaD,zad,int,h0];done
 rw [if_neg h0] at hR
 by_cases h4:4<ps.length
 ·rw [if_pos h4] at hR
  subst hR;have h4':(4:Int)<ps.length:=by omega
  have h0':¬(ps.length:Int)=0:=by omega
  simp +decide [Tryz.f60,Lang.d,anaD,zad,int,h0,h0',h4,h4'];done
 rw [if_neg h4] at hR
 have h4':¬(4:Int)<ps.length:=by omega
 have h0':¬(ps.length:Int)=0:=by omega
 simp +decide [Tryz.f60,Lang.d,anaD,zad,int,h0,h0',h4,h4']
 refine zaf mixed (fun k:Nat=>{n:=73,next:=2,slots:=[(2,.bp 0 0),(3,.bp 1 0),(21,.d (zad ps)),(22,.d (int ps.length)),(23,.d (int k))],own:=[(0,.box 36 (zak g.d)),(1,.box 39 [.d (zad ps)])]})
  (fun k=>k≤ps.length∧zfe g.lex (ps.drop k)=zfe g.lex ps) (fun k=>ps.length-k) 0 (by simp) (by simp +decide [int,zad,zak,Lang.d]) ?_
 intro k ⟨hk,hpe⟩
 by_cases hlt:k<ps.length
 case neg=>
  have:k=ps.length:=by omega
  subst this;rw [List.drop_length] at hpe;rw [← hpe] at hR;have hz:zfe g.lex []=0:=rfl
  rw [hz,if_neg (by simp)] at hR
  have hC:=z2e g hg.lex ps hp;have hB:=z5i g hg.lex ps hp;have hcl:=zh2 g.lex ps;have hA:=z19 g.net hg.net (zaz g.lex ps) (by omega)
  have hbl:=zoz hg.lex ps;simp +decide [int,zad,zak,Lang.d];refine zah (by rfl) (by rfl) hC (by simp [int]) ?_
  simp +decide [int,zad,zak,Lang.d];refine zah (by rfl) (by rfl) hA (by simp [int]) ?_
  cases hac:zej g.net (zaz g.lex ps) with
  | false=>
   rw [if_pos hac] at hR;subst hR;simp +decide [int]
  | true=>
   rw [if_neg (by rw [hac];decide)] at hR
   simp +decide [int];refine zal.pure (by rfl) hB (by simp [int]) ?_
   by_cases hb:24<(zba g.lex ps).length
   ·rw [if_pos hb] at hR
    subst hR;have hb':(24:Int)<(zba g.lex ps).length:=by omega
    simp +decide [int,ints,hb,hb']
   ·rw [if_neg hb] at hR
    subst hR;have hb':¬(24:Int)<(zba g.lex ps).length:=by omega
    simp +decide [int,ints,hb,hb']
 have hlt':(k:Int)<ps.length:=by omega
 have hsn:=zx9 (l:=g.lex) hlt
 rw [hpe] at hsn
 obtain ⟨p,ep⟩ : ∃ p,ps[k]=p:=⟨_,rfl⟩
 have e1:ps[k]?=some p:=by rw [List.getElem?_eq_getElem hlt,ep]
 rw [ep] at hsn
 have hG:=zox g.lex p.entry hg.lex.len
 have hF:=zx7 g hg.lex p
 have hS:=zoy g.lex p.entry hg.lex.len hg.lex.senses
 unfold zh3 at hsn
 generalize getE g.lex p.entry=r1 at hG hsn
 generalize zf6 g.lex p=r2 at hF hsn
 generalize zcp g.lex p.entry=ss at hS hsn
 obtain ⟨e,ok⟩:=r1
 obtain ⟨e2,w,ok2⟩:=r2
 simp only at hsn
 simp +decide [int,zad,Prt.row,hlt,hlt',e1,ep,I64,zak,Lang.d]
 refine zal.pure (by rfl) hG (by simp [lexD,int]) ?_
 cases ok with
 | false=>
  have:R=9:=by rw [← hR,hsn];simp
  subst this;simp +decide [int,Ent.row]
 | true=>
  simp +decide [int,Ent.row,Prt.row,I64,zak,Lang.d];refine zal.pure (by rfl) hF (by simp [lexD,int]) ?_
  cases ok2 with
  | false=>
   have:R=2:=by rw [← hR,hsn];simp
   subst this;simp +decide [int,zn7,Ent.row]
  | true=>
   simp +decide [int,zn7,Ent.row,Prt.row,I64,zak,Lang.d];by_cases hs0:p.sense<0
   ·have:R=22:=by rw [← hR,hsn];simp [hs0]
    subst this;simp +decide [int,hs0];intro h;omega
   ·simp +decide [int,hs0]
    intro _;refine zah (by rfl) (by rfl) hS (by simp [zbq]) ?_
    by_cases hs1:(ss.length:Int)≤p.sense
    ·have:R=22:=by rw [← hR,hsn];simp [hs0,hs1]
     subst this;simp +decide [int,zbq,hs1]
    ·have hd:zfe g.lex (ps.drop (k+1))=zfe g.lex ps:=by rw [hsn];simp [hs0,hs1]
     simp +decide [int,zbq,hs1];exact ⟨⟨by omega,by omega⟩,k+1,⟨hlt,hd⟩,by omega,by simp⟩
end Go.V

/- Contracts and plain laws of this seat: part M3. It needs no conditions. -/
import Derived.Test.YtmpknkjlhapcmaaGreatM1
import Derived.Test.YtmpknkjlhapcmaaGreatW1
set_option linter.unusedVariables false
set_option linter.unusedSimpArgs false
set_option linter.unusedSectionVars false
set_option maxRecDepth 100000
namespace Go.V
open Go Go.Proofs
theorem zao {α:Type} {l:List α} {k:Nat} (h:k<l.length):l.take (k+1)=l.take k++[l[k]]:=by
 rw [List.take_succ_eq_append_getElem h]
def u32 (m:Nat):D:=.int .u32 m
def hasS (m:Nat) (q:Int):Bool:=m.testBit q.toNat
def zhl (m:Nat) (q:Int):Nat:=m ||| (1 <<< q.toNat)
theorem yd0 : ∀ (m:Fin 8) (q:Fin 3),(decide (zht .and .u32 (zkk .shr .u32 (m.val:Int) (q.val:Int)) 1=1))=m.val.testBit q.val:=by decide +kernel
theorem z9h : ∀ (m:Fin 8) (q:Fin 3),zht .or .u32 (m.val:Int) (zkk .shl .u32 1 (q.val:Int))=((m.val ||| (1 <<< q.val):Nat):Int):=by decide +kernel
theorem ygx : ∀ (m:Fin 8) (q:Fin 3),m.val ||| (1 <<< q.val)<8:=by decide +kernel
theorem zw1 {m:Nat} {q:Int} (hm:m<8) (h0:0≤q) (h1:q<3):(decide (zht .and .u32 (zkk .shr .u32 (m:Int) q) 1=1))=hasS m q:=by
 have:=yd0 ⟨m,hm⟩ ⟨q.toNat,by omega⟩
 simp only [show ((q.toNat:Nat):Int)=q by omega] at this
 exact this
theorem zm6 {m:Nat} {q:Int} (hm:m<8) (h0:0≤q) (h1:q<3):zht .or .u32 (m:Int) (zkk .shl .u32 1 q)=((zhl m q:Nat):Int):=by
 have:=z9h ⟨m,hm⟩ ⟨q.toNat,by omega⟩
 simp only [show ((q.toNat:Nat):Int)=q by omega] at this
 exact this
theorem z3o {m:Nat} {q:Int} (hm:m<8) (h0:0≤q) (h1:q<3):zhl m q<8:=ygx ⟨m,hm⟩ ⟨q.toNat,by omega⟩
theorem z9i (m:Nat) (q:Int) (hm:m<8) (h0:0≤q) (h1:q<3):zam Tryz.prog 206 [u32 m,int q] (.bool (hasS m q)):=by
 refine zaa mixed Tryz.func206 rfl call_206 ?_
 simp +decide [Tryz.f206,u32,int]
 have hw:IntKind.u64.wrap q=q:=by rw [IntKind.wrap_u64];omega
 rw [hw]
 exact .inl ⟨h0,zw1 hm h0 h1⟩
theorem zs5 (m:Nat) (q:Int) (hm:m<8) (h0:0≤q) (h1:q<3):zam Tryz.prog 190 [u32 m,int q] (u32 (zhl m q)):=by
 refine zaa mixed Tryz.func190 rfl call_190 ?_
 simp +decide [Tryz.f190,u32,int]
 have hw:IntKind.u64.wrap q=q:=by rw [IntKind.wrap_u64];omega
 rw [hw]
 exact .inl ⟨h0,zm6 hm h0 h1⟩
abbrev z0g (n:Nett) (m:Nat):D:=.fn 205 [.ptr n.cells,.ptr [u32 m]]
theorem yd1 (n:Nett) (m:Nat):zam Tryz.prog 202 [.agg n.cells,u32 m] (z0g n m):=by
 refine zaa mixed Tryz.func202 rfl call_202 ?_
 simp +decide [Tryz.f202,u32,int,Nett.cells]
def zbm (m:Nat) (c:Int) (out:Nat) (s:Stp):Nat:=if hasS m s.src=true∧s.cls=c then zhl out s.dst else out
def za2 (l:List Stp) (m:Nat) (c:Int):Nat:=l.foldl (zbm m c) 0
def zkx (l:List Stp):Prop:=∀ s∈l,(0≤s.src∧s.src<3)∧(0≤s.dst∧s.dst<3)
theorem zpc {m:Nat} {c:Int} : ∀ {l:List Stp} {out:Nat},zkx l→out<8→l.foldl (zbm m c) out<8
 | [],out,_,h=>h
 | s::l,out,hl,h=>by
  rw [List.foldl_cons];refine zpc (fun x hx=>hl x (by simp [hx])) ?_
  unfold zbm;split
  ·have:=(hl s (by simp)).2;exact z3o h this.1 this.2
  ·exact h
theorem zfp {l:List Stp} (h:zkx l) (m:Nat) (c:Int):za2 l m c<8:=zpc h (by omega)
def zd8 (n:Nett) (m:Nat):List Sym:=[.junk,.junk,.junk,.junk,.junk,.bp 2 0,.junk,.bp 1 0,.junk,.junk,.junk,.d (z0g n m),.junk,.junk,.junk,.junk,.junk,.junk,.junk,.junk,.junk,.junk]
@[simp] theorem ygy (n:Nett) (m:Nat):Sym.los 3 (zd8 n m):=by simp [zd8,Sym.los,Sym.lo]
noncomputable def zek (n:Nett) (m:Nat) (c:Int) (out:Nat) (s:LoopState):List (Nat×Obj'):=
 [(0,.raw (.lp #[12] (rAs Tryz.f189) (rBd Tryz.f189) s none) (zd8 n m)),(1,.box 202 [.d (u32 out)]),(2,.box 3 [.d (int c)])]
theorem z9j (n:Nett) (m:Nat) (c:Int) (out:Nat) (hout:out<8) (s:Stp) (hs:0≤s.dst∧s.dst<3) :
  zrt Tryz.prog 0 [.d (.agg s.row)] (zek n m c out .ready) 3 (.d (.bool true)) 3 (zek n m c (if s.cls=c then zhl out s.dst else out) .ready) []:=by
 refine zwa (cells:=zd8 n m) (ps:=#[12]) (aS := rAs Tryz.f189) (bd:=rBd Tryz.f189) rfl (by simp) (by simp [zd8]) (by omega) (by simp [Sym.los,Sym.lo]) ?_
 have hw:=zs5 out s.dst hout hs.1 hs.2
 by_cases hc:s.cls=c
 ·rw [if_pos hc]
  simp +decide [zek,zd8,rAs,rBd,zeg,Tryz.f189,Stp.row,int,u32,hc];refine zaj.pure (by rfl) hw (by simp [u32,int]) ?_
  simp +decide [u32,int]
 ·rw [if_neg hc]
  simp +decide [zek,zd8,rAs,rBd,zeg,Tryz.f189,Stp.row,int,u32,hc]
set_option maxHeartbeats 2000000 in
theorem yd2 (n:Nett) (m:Nat) (c:Int) (hok:zkx n.steps) (hm:m<8) (hl:n.steps.length<2^40) :
  zcq Tryz.prog 205 [.yd 0,.d (.ptr n.cells),.d (.ptr [u32 m])] (zek n m c 0 .ready) 3 (.d (.tup [])) 3 (zek n m c (za2 n.steps m c) .ready) []:=by
 refine zcq.yji (zbz mixed Tryz.func205 rfl call_205 (by simp [Sym.los,Sym.lo]) ?_)
 simp +decide [Tryz.f205,Nett.cells,stepsD,int,u32]
 refine zbe mixed (fun k:Nat=>{n:=24,next:=3,base:=3,slots:=[(0,.yd 0),(1,.d (.ptr n.cells)),(2,.d (.ptr [u32 m])),(7,.d (stepsD n.steps)),(8,.d (int n.steps.length)),(9,.d (int k))],own:=zek n m c ((n.steps.take k).foldl (zbm m c) 0) .ready})
  (fun k=>k≤n.steps.length) (fun k=>n.steps.length-k) 0 (by simp) (by simp +decide [int,u32,stepsD,Nett.cells,zek]) ?_
 intro k hk
 refine zmv ?_
 by_cases hlt:k<n.steps.length
 case neg=>
  have:k=n.steps.length:=by omega
  subst this;rw [List.take_length];have ha:(n.steps.foldl (zbm m c) 0)=za2 n.steps m c:=rfl
  rw [ha];simp +decide [int,u32,stepsD,Nett.cells,zek]
 have hlt':(k:Int)<n.steps.length:=by omega
 have hsn:(n.steps.take (k+1)).foldl (zbm m c) 0=zbm m c ((n.steps.take k).foldl (zbm m c) 0) n.steps[k]:=by rw [zao hlt,List.foldl_append];rfl
 have ho8:(n.steps.take k).foldl (zbm m c) 0<8:=zpc (fun x hx=>hok x (List.mem_of_mem_take hx)) (by omega)
 obtain ⟨s,es⟩ : ∃ s,n.steps[k]=s:=⟨_,rfl⟩
 have e1:n.steps[k]?=some s:=by rw [List.getElem?_eq_getElem hlt,es]
 have hsok:=hok s (by rw [← es];exact List.getElem_mem hlt)
 rw [es] at hsn
 generalize (n.steps.take k).foldl (zbm m c) 0=out at hsn ho8
 have hH:=z9i m s.src hm hsok.1.1 hsok.1.2
 have hR:=z9j n m c out ho8 s hsok.2
 simp +decide [int,u32,stepsD,Nett.cells,Stp.row,zek,hlt,hlt',e1,es,I64]
 refine zaj.pure (by rfl) hH (by simp [u32,int]) ?_
 cases hb:hasS m s.src with
 | false=>
  have h2:zbm m c out s=out:=by unfold zbm;rw [if_neg (by rw [hb];simp)]
  rw [h2] at hsn;simp +decide [int,u32,stepsD,Nett.cells,Stp.row,zek,hlt,hlt',e1,es,I64];exact ⟨⟨by omega,by omega⟩,k+1,hlt,by omega,by omega,by rw [hsn]⟩
 | true=>
  have h2:zbm m c out s=if s.cls=c then zhl out s.dst else out:=by unfold zbm;rw [hb];simp
  rw [h2] at hsn;simp +decide [int,u32,stepsD,Nett.cells,Stp.row,zek,hlt,hlt',e1,es,I64];refine zrn.to 0 [0,1,2] [.d (.agg s.row)] (zek n m c out .ready) (by simp [rho]) (by simp [Stp.row,int]) (by simp [Sym.los,Sym.lo]) (by simp [zek,zd8,u32,int];rfl) hR ?_
  simp +decide [int,u32,stepsD,Nett.cells,Stp.row,zek,zd8,hlt,hlt',e1,es,I64];exact ⟨⟨by omega,by omega⟩,k+1,hlt,by omega,by omega,by rw [hsn]⟩
set_option maxHeartbeats 2000000 in
theorem yd3 (n:Nett) (m:Nat) (c:Int) (hok:zkx n.steps) (hm:m<8) (hl:n.steps.length<2^40) :
  zam Tryz.prog 189 [.agg n.cells,u32 m,int c] (u32 (za2 n.steps m c)):=by
 refine zkq Tryz.func189 rfl call_189 ?_
 refine zwc mixed 2 {n:=22,next:=3,slots:=[(1,.d (u32 m)),(3,.bp 0 0),(5,.bp 1 0),(7,.bp 2 0)],own:=[(0,.box 53 (n.cells.map .d)),(1,.box 3 [.d (int c)]),(2,.box 202 [.d (u32 0)])]} rfl ?_ ?_
 ·simp +decide [Tryz.f189,ze9,Nett.cells,int,u32]
 simp only [zfz]
 refine zow (zwc mixed 1 {n:=22,next:=3,slots:=[(5,.bp 1 0),(7,.bp 2 0),(11,.d (z0g n m))],own:=[(1,.box 3 [.d (int c)]),(2,.box 202 [.d (u32 0)])]} rfl ?_ ?_)
 ·simp +decide [ze9,Nett.cells,int,u32]
  refine zaj.pure (by rfl) (yd1 n m) (by simp [Nett.cells,int,u32]) ?_
  simp +decide [Nett.cells,int,u32]
 simp only [zfz]
 refine zmx (zmw (k:=0) (ids:=[3,2,1]) (args0:=[.yd 0,.d (.ptr n.cells),.d (.ptr [u32 m])]) (own0:=zek n m c 0 .ready) (by rfl) (by simp [rho]) (by simp) (by simp [Sym.los,Sym.lo]) ?_ (yd2 n m c hok hm hl) ?_)
 ·simp +decide [zek,zd8,rAs,rBd,zeg,Tryz.f189,u32,int]
 ·simp +decide [zek,zd8,u32,int]
end Go.V
namespace Go.V
open Go Go.Proofs
def runS (l:List Stp) (cs:List Int):Nat:=cs.foldl (fun m c=>za2 l m c) 1
def zb6 (l:List Int):Nat:=l.foldl zhl 0
theorem z0h {l:List Stp} (h:zkx l) : ∀ (cs:List Int) (m:Nat),m<8→cs.foldl (fun m c=>za2 l m c) m<8
 | [],m,hm=>hm
 | c::cs,m,hm=>by rw [List.foldl_cons];exact z0h h cs _ (zfp h m c)
theorem zgt : ∀ (l:List Int) (m:Nat),(∀ q∈l,0≤q∧q<3)→m<8→l.foldl zhl m<8
 | [],m,_,hm=>hm
 | q::l,m,h,hm=>by
  rw [List.foldl_cons];exact zgt l _ (fun x hx=>h x (by simp [hx])) (z3o hm (h q (by simp)).1 (h q (by simp)).2)
theorem yd4 (n:Nett) (hok:zkx n.steps) (hl:n.steps.length<2^40) (cs:List Int) (hc:cs.length<2^40):zam Tryz.prog 168 [.agg n.cells,ints cs] (u32 (runS n.steps cs)):=by
 refine zaa mixed Tryz.func168 rfl call_168 ?_
 simp +decide [Tryz.f168,Nett.cells,int,ints,u32]
 refine zaf mixed (fun k:Nat=>{n:=20,next:=1,slots:=[(2,.bp 0 0),(5,.d (u32 (runS n.steps (cs.take k)))),(8,.d (ints cs)),(9,.d (int cs.length)),(10,.d (int k))],own:=[(0,.box 53 (n.cells.map .d))]})
  (fun k=>k≤cs.length) (fun k=>cs.length-k) 0 (by simp) (by simp +decide [int,ints,u32,Nett.cells,runS]) ?_
 intro k hk
 by_cases hlt:k<cs.length
 case neg=>
  have:k=cs.length:=by omega
  subst this;rw [List.take_length];simp +decide [int,ints,u32]
 have hlt':(k:Int)<cs.length:=by omega
 have hsn:runS n.steps (cs.take (k+1))=za2 n.steps (runS n.steps (cs.take k)) cs[k]:=by unfold runS;rw [zao hlt,List.foldl_append];rfl
 have hm8:runS n.steps (cs.take k)<8:=z0h hok _ 1 (by omega)
 obtain ⟨c,ec⟩ : ∃ c,cs[k]=c:=⟨_,rfl⟩
 have e1:cs[k]?=some c:=by rw [List.getElem?_eq_getElem hlt,ec]
 rw [ec] at hsn
 generalize runS n.steps (cs.take k)=m at hsn hm8
 have hA:=yd3 n m c hok hm8 hl
 simp +decide [int,ints,u32,Nett.cells,hlt,hlt',e1,ec,I64]
 refine zaj.pure (by rfl) hA (by simp [u32,int,Nett.cells]) ?_
 simp +decide [int,ints,u32,Nett.cells,I64]
 exact ⟨⟨by omega,by omega⟩,k+1,hlt,by omega,by rw [hsn],by omega⟩
theorem z5u (n:Nett) (hf : ∀ q∈n.final,0≤q∧q<3) (hl:n.final.length<2^40):zam Tryz.prog 169 [.agg n.cells] (u32 (zb6 n.final)):=by
 refine zaa mixed Tryz.func169 rfl call_169 ?_
 simp +decide [Tryz.f169,Nett.cells,int,ints,u32]
 refine zaf mixed (fun k:Nat=>{n:=18,next:=1,slots:=[(3,.d (u32 (zb6 (n.final.take k)))),(7,.d (ints n.final)),(8,.d (int n.final.length)),(9,.d (int k))],own:=[]})
  (fun k=>k≤n.final.length) (fun k=>n.final.length-k) 0 (by simp) (by simp +decide [int,ints,u32,Nett.cells,zb6]) ?_
 intro k hk
 by_cases hlt:k<n.final.length
 case neg=>
  have:k=n.final.length:=by omega
  subst this;rw [List.take_length];simp +decide [int,ints,u32]
 have hlt':(k:Int)<n.final.length:=by omega
 have hsn:zb6 (n.final.take (k+1))=zhl (zb6 (n.final.take k)) n.final[k]:=by unfold zb6;rw [zao hlt,List.foldl_append];rfl
 have hm8:zb6 (n.final.take k)<8:=zgt _ 0 (fun x hx=>hf x (List.mem_of_mem_take hx)) (by omega)
 have hq:=hf n.final[k] (List.getElem_mem hlt)
 obtain ⟨c,ec⟩ : ∃ c,n.final[k]=c:=⟨_,rfl⟩
 have e1:n.final[k]?=some c:=by rw [List.getElem?_eq_getElem hlt,ec]
 rw [ec] at hsn hq
 generalize zb6 (n.final.take k)=m at hsn hm8
 have hA:=zs5 m c hm8 hq.1 hq.2
 simp +decide [int,ints,u32,Nett.cells,hlt,hlt',e1,ec,I64]
 refine zaj.pure (by rfl) hA (by simp [u32,int,Nett.cells]) ?_
 simp +decide [int,ints,u32,Nett.cells,I64]
 exact ⟨⟨by omega,by omega⟩,k+1,hlt,by omega,by rw [hsn],by omega⟩
def ygz (n:Nett):Prop:=zkx n.steps∧(∀ q∈n.final,0≤q∧q<3)∧n.steps.length<2^40∧n.final.length<2^40
theorem yd5 : ∀ (a b:Fin 8),(zht .and .u32 (a.val:Int) (b.val:Int))=((a.val &&& b.val:Nat):Int):=by decide +kernel
def zhm (n:Nett) (cs:List Int):Bool:=decide (runS n.steps cs &&& zb6 n.final≠0)
theorem z5v (n:Nett) (hn:ygz n) (cs:List Int) (hc:cs.length<2^40):zam Tryz.prog 138 [.agg n.cells,ints cs] (.bool (zhm n cs)):=by
 obtain ⟨h1,h2,h3,h4⟩:=hn
 have w1:=yd4 n h1 h3 cs hc
 have w2:=z5u n h2 h4
 have l1:runS n.steps cs<8:=z0h h1 cs 1 (by omega)
 have l2:zb6 n.final<8:=zgt _ 0 h2 (by omega)
 unfold zhm
 generalize runS n.steps cs=a at w1 l1 ⊢
 generalize zb6 n.final=b at w2 l2 ⊢
 have hb:=yd5 ⟨a,l1⟩ ⟨b,l2⟩
 simp only at hb
 refine zaa mixed Tryz.func138 rfl call_138 ?_
 simp +decide [Tryz.f138,Nett.cells,int,ints]
 refine zae (by rfl) (by rfl) w1 (by simp [u32,int,Nett.cells]) ?_
 simp +decide [int,ints,u32,Nett.cells,I64]
 refine zae (by rfl) (by rfl) w2 (by simp [u32,int,Nett.cells]) ?_
 simp +decide [int,ints,u32,Nett.cells,I64,hb]
theorem yd6 (e:Ent) (id:Int):zam Tryz.prog 164 [.agg e.row,.ptr [int id]] (.bool (decide (e.id=id))):=by
 refine zaa mixed Tryz.func164 rfl call_164 ?_
 simp +decide [Tryz.f164,Ent.row,int]
theorem z9k (l:List Ent) (id:Int) (hl:l.length<2^62):zam Tryz.prog 163 [lexD l,.fn 164 [.ptr [int id]]] (int (zds l id)):=by
 refine zaa mixed Tryz.func163 rfl call_163 ?_
 simp [Tryz.f163,lexD]
 refine zaf mixed (fun k:Nat=>{n:=19,next:=0,slots:=[(0,.d (lexD l)),(1,.d (.fn 164 [.ptr [int id]])),(6,.d (lexD l)),(7,.d (.int .i64 l.length)),(8,.d (.int .i64 k))],own:=[]})
  (fun k=>k≤l.length∧∀ e∈l.take k,e.id≠id) (fun k=>l.length-k) 0 (by simp) (by simp [lexD]) ?_
 intro k ⟨hk,hp⟩
 by_cases hlt:k<l.length
 ·have hlt':(k:Int)<l.length:=by omega
  obtain ⟨e,ee⟩ : ∃ e,l[k]=e:=⟨_,rfl⟩;have e1:l[k]?=some e:=by rw [List.getElem?_eq_getElem hlt,ee]
  simp +decide [lexD,Ent.row,int,e1,ee,hlt,hlt',I64];refine zaj.pure (by rfl) (yd6 e id) (by simp [Ent.row,int]) ?_
  by_cases he:e.id=id
  ·have:=zpn hlt hp (by rw [ee];exact he)
   simp +decide [lexD,int,he,I64,zds,this]
  ·simp +decide [lexD,int,he,I64]
   exact ⟨⟨by omega,by omega⟩,k+1,⟨hlt,zd7 hlt hp (by rw [ee];exact he)⟩,by omega,by omega⟩
 ·have:k=l.length:=by omega
  subst this;simp +decide [lexD,int];simp [zds,zm2 (by simpa using hp)]
theorem zdd (l:List Ent) (id:Int):(zds l id<0∧getE l id=(Ent.zero,false))∨∃ k:Nat,∃ h:k<l.length,zds l id=k∧getE l id=(l[k],true):=by
 unfold zds getE
 cases h:l.findIdx? (·.id=id) with
 | none=>
  left
  rw [List.findIdx?_eq_none_iff] at h;have:l.find? (·.id=id)=none:=by rw [List.find?_eq_none];intro x hx;simpa using h x hx
  rw [this];exact ⟨by simp,rfl⟩
 | some k=>
  right
  rw [List.findIdx?_eq_some_iff_getElem] at h;obtain ⟨h1,h2,h3⟩:=h;refine ⟨k,h1,rfl,?_⟩
  have:l.find? (·.id=id)=some l[k]:=by
   rw [List.find?_eq_some_iff_getElem];exact ⟨h2,k,h1,rfl,fun j hj=>by simpa using h3 j hj⟩
  rw [this]
theorem zpz (l:List Ent) (id:Int) (hl:l.length<2^40):zam Tryz.prog 135 [lexD l,int id] (.tup [.agg (getE l id).1.row,.bool (getE l id).2]):=by
 refine zaa mixed Tryz.func135 rfl call_135 ?_
 simp +decide [Tryz.f135,lexD,int]
 refine zaj.pure (by rfl) (z9k l id (by omega)) (fun _=>rfl) ?_
 rcases zdd l id with ⟨h1,h2⟩ | ⟨k,hk,h1,h2⟩
 ·rw [h2]
  simp +decide [lexD,int,h1,Ent.zero,Ent.row,ints,zbh,zbu,lnkD,rfD]
 ·rw [h2,h1]
  have hk0:¬(k:Int)<0:=by omega
  have hk':(k:Int)<l.length:=by omega
  simp +decide [lexD,int,hk0,hk,hk',Ent.row,ints,zbh,zbu,lnkD,rfD]
end Go.V
namespace Go.V
open Go Go.Proofs
def wayR (l:List Ent):Nat→Int→Option (List Sens)
 | 0,_=>none
 | f+1,id=>if (getE l id).2=true then (if (getE l id).1.senses≠[] then some (getE l id).1.senses else if (getE l id).1.main=0 then none else wayR l f (getE l id).1.main) else none
def zde (l:List Ent) (id:Int):List Sens:=(wayR l (l.length+1) id).getD []
theorem zw2 (l:List Sens) (hl:l.length<2^40):zam Tryz.prog 167 [zbu l] (zbu l):=by
 refine zaa mixed Tryz.func167 rfl call_167 ?_
 simp +decide [Tryz.f167,zbu,maxLen]
 exact ⟨fun a _=>rfl,by omega,by omega⟩
def zcz:List Sym:=[.junk,.junk,.junk,.junk,.bp 1 0,.junk,.junk,.junk,.fn 188 [.bp 2 0,.bp 3 0],.junk,.junk,.junk,.junk,.junk,.junk,.junk,.junk]
@[simp] theorem yg0:Sym.los 4 zcz:=by simp [zcz,Sym.los,Sym.lo]
@[simp] theorem yf9:rens (rho' [0,1,2,3] 5) zcz=zcz:=rfl
noncomputable def zdu (s:LoopState) (pd:Option Code):Obj':=.raw (.lp #[9] (rAs Tryz.f137) (rBd Tryz.f137) s pd) zcz
noncomputable def zdf (l:List Ent) (id:Int):List (Nat×Obj'):=
 [(0,zdu .ready none),(1,.box 103 [.nils]),(2,.box 54 [.d (lexD l)]),(3,.box 3 [.d (int id)])]
noncomputable def zuw (l:List Ent) (id:Int) (ss:List Sens):List (Nat×Obj'):=
 [(0,zdu .done (some .ret)),(1,.box 103 [.d (zbu ss)]),(2,.box 54 [.d (lexD l)]),(3,.box 3 [.d (int id)])]
theorem z5w (l:List Ent) (id:Int) (e:Ent) (he:e.senses=[]) :
  zrt Tryz.prog 0 [.d (.agg e.row)] (zdf l id) 4 (.d (.bool true)) 4 (zdf l id) []:=by
 refine zwa (cells:=zcz) (ps:=#[9]) (aS := rAs Tryz.f137) (bd:=rBd Tryz.f137) rfl (by simp) (by simp [zcz]) (by omega) (by simp [Sym.los,Sym.lo]) ?_
 simp +decide [zdf,zdu,zcz,rAs,rBd,zeg,Tryz.f137,Ent.row,int,he,zbu]
theorem z5x (l:List Ent) (id:Int) (e:Ent) (he:e.senses≠[]) (hl:e.senses.length<2^40) :
  zrt Tryz.prog 0 [.d (.agg e.row)] (zdf l id) 4 (.d (.bool false)) 4 (zuw l id e.senses) []:=by
 refine zwa (cells:=zcz) (ps:=#[9]) (aS := rAs Tryz.f137) (bd:=rBd Tryz.f137) rfl (by simp) (by simp [zcz]) (by omega) (by simp [Sym.los,Sym.lo]) ?_
 have hC:=zw2 e.senses hl
 have hp:(0:Int)<e.senses.length:=by
  have:e.senses.length≠0:=fun e2=>he (List.eq_nil_of_length_eq_zero e2)
  omega
 simp +decide [zdf,zuw,zdu,zcz,rAs,rBd,zeg,Tryz.f137,Ent.row,int,he,hp,zbu]
 intro _
 refine zaj.pure (by rfl) hC (by simp [zbu]) ?_
 simp +decide [zdf,zuw,zdu,zcz,int,zbu]
noncomputable def zn6:Option (List Sens)→List (Nat×Obj')
 | none=>[(0,zdu .ready none),(1,.box 103 [.nils])]
 | some ss=>[(0,zdu .done (some .ret)),(1,.box 103 [.d (zbu ss)])]
set_option maxHeartbeats 4000000 in
theorem yd7 (l:List Ent) (id:Int) (hl:l.length<2^40) (hs : ∀ e∈l,e.senses.length<2^40) :
  zcq Tryz.prog 188 [.yd 0,.bp 2 0,.bp 3 0] (zdf l id) 4 (.d (.tup [])) 4 (zn6 (wayR l (l.length+1) id)) []:=by
 refine zcq.yji (zbz mixed Tryz.func188 rfl call_188 (by simp [Sym.los,Sym.lo]) ?_)
 simp +decide [Tryz.f188,zdf,lexD,int,I64]
 refine ⟨⟨by omega,by omega⟩,?_⟩
 refine zbe mixed (fun x:Nat×Int=>{n:=33,next:=4,base:=4,slots:=[(0,.yd 0),(1,.bp 2 0),(2,.bp 3 0),(8,.d (int (l.length+1))),(9,.d (int x.1))],own:=zdf l x.2})
  (fun x=>x.1≤l.length+1∧wayR l (l.length+1-x.1) x.2=wayR l (l.length+1) id) (fun x=>l.length+1-x.1) (0,id) (by simp) (by simp +decide [int,lexD,zdf,zdu]) ?_
 rintro ⟨k,i⟩ ⟨hk,hw⟩
 simp only at hk hw
 refine zmv ?_
 by_cases hlt:k<l.length+1
 case neg=>
  have:k=l.length+1:=by omega
  subst this;rw [Nat.sub_self] at hw;rw [← hw];simp +decide [int,lexD,zdf,zdu,wayR,zn6]
 have hlt':(k:Int)<l.length+1:=by omega
 rw [show l.length+1-k=(l.length-k)+1 by omega,wayR] at hw
 have hG:=zpz l i hl
 have hmem:(getE l i).2=true→(getE l i).1∈l:=by
  rcases zdd l i with ⟨_,h2⟩ | ⟨j,hj,_,h2⟩
  ·rw [h2];intro h;cases h
  ·rw [h2];intro _;exact List.getElem_mem hj
 generalize getE l i=g at hw hG hmem
 obtain ⟨e,ok⟩:=g
 simp only at hw hG hmem
 simp +decide [int,lexD,zdf,zdu,hlt,hlt']
 refine zaj.pure (by rfl) hG (by simp [lexD,int]) ?_
 cases ok with
 | false=>
  simp only [Bool.false_eq_true,if_false] at hw;rw [← hw];simp +decide [int,lexD,zdf,zdu,zn6,Ent.row,hlt,hlt']
 | true=>
  simp only [if_true] at hw;have hem:=hmem rfl;by_cases hes:e.senses=[]
  ·have hR:=z5w l i e hes
   rw [if_neg (by simp [hes])] at hw
   simp +decide [int,lexD,zdf,zdu,Ent.row,hlt,hlt'];refine zrn.to 0 [0,1,2,3] [.d (.agg e.row)] (zdf l i) (by simp [rho]) (by simp [Ent.row,int]) (by simp [Sym.los,Sym.lo]) (by simp [zdf,zdu,zcz,lexD,int];rfl) hR ?_
   by_cases hm0:e.main=0
   ·rw [if_pos hm0] at hw
    rw [← hw];simp +decide [int,lexD,zdf,zdu,zn6,Ent.row,hlt,hlt',hm0]
   ·rw [if_neg hm0] at hw
    simp +decide [int,lexD,zdf,zdu,zn6,Ent.row,hlt,hlt',hm0];exact ⟨by unfold I64;omega,k+1,e.main,⟨by omega,by rw [show l.length+1-(k+1)=l.length-k by omega];exact hw⟩,by omega,by omega,rfl⟩
  ·have hR:=z5x l i e hes (hs e hem)
   rw [if_pos hes] at hw;rw [← hw];simp +decide [int,lexD,zdf,zdu,Ent.row,hlt,hlt'];refine zrn.to 0 [0,1,2,3] [.d (.agg e.row)] (zdf l i) (by simp [rho]) (by simp [Ent.row,int]) (by simp [Sym.los,Sym.lo]) (by simp [zdf,zdu,zcz,lexD,int];rfl) hR ?_
   simp +decide [int,lexD,zuw,zdu,zn6,Ent.row,hlt,hlt']
theorem yin (l:List Ent) (id:Int):zcq Tryz.prog 166 [.d (lexD l),.d (int id)] [] 0 (.fn 188 [.bp 0 0,.bp 1 0]) 2 [(0,.box 54 [.d (lexD l)]),(1,.box 3 [.d (int id)])] []:=by
 refine zbz mixed Tryz.func166 rfl call_166 (by simp [Sym.los,Sym.lo]) ?_
 simp +decide [Tryz.f166,lexD,int]
set_option maxHeartbeats 2000000 in
theorem zp0 (l:List Ent) (id:Int) (hl:l.length<2^40) (hs : ∀ e∈l,e.senses.length<2^40):zam Tryz.prog 137 [lexD l,int id] (zbu (zde l id)):=by
 refine zkq Tryz.func137 rfl call_137 ?_
 refine zwc mixed 1 {n:=17,next:=1,slots:=[(0,.d (lexD l)),(1,.d (int id)),(4,.bp 0 0)],own:=[(0,.box 103 [.nils])]} rfl ?_ ?_
 ·simp +decide [Tryz.f137,ze9,lexD,int]
 simp only [zfz]
 refine zow (zwc mixed 1 {n:=17,next:=3,slots:=[(4,.bp 0 0),(8,.fn 188 [.bp 1 0,.bp 2 0])],own:=[(0,.box 103 [.nils]),(1,.box 54 [.d (lexD l)]),(2,.box 3 [.d (int id)])]} rfl ?_ ?_)
 ·simp +decide [ze9,lexD,int]
  refine zaj.mut [] [.d (lexD l),.d (int id)] [] (by rfl) (by simp [lexD,int]) (by simp) (by simp) (yin l id) ?_
  simp +decide [lexD,int]
 simp only [zfz]
 refine zmx (zmw (k:=0) (ids:=[3,0,1,2]) (args0:=[.yd 0,.bp 2 0,.bp 3 0]) (own0:=zdf l id) (by rfl) (by simp [rho]) (by simp) (by simp [Sym.los,Sym.lo]) ?_ (yd7 l id hl hs) ?_)
 ·simp +decide [zdf,zdu,zcz,rAs,rBd,zeg,Tryz.f137,int,lexD]
 ·unfold zde
  cases wayR l (l.length+1) id with
  | none=>
   simp +decide [zn6,zdu,int,lexD,zbu]
  | some ss=>
   simp +decide [zn6,zdu,int,lexD]
end Go.V
namespace Go.V
open Go Go.Proofs
structure LexFit (l:List Ent):Prop where
 len:l.length<2^40
 alts : ∀ e∈l,e.alts.length<2^39
 form : ∀ e∈l,∀ w∈e.forms,w.length<2^20
 senses : ∀ e∈l,e.senses.length<2^40
theorem zux {l:List Ent} {id:Int} (h:(getE l id).2=true):(getE l id).1∈l:=by
 rcases zdd l id with ⟨_,h2⟩ | ⟨j,hj,_,h2⟩
 ·rw [h2] at h;cases h
 ·rw [h2];exact List.getElem_mem hj
theorem z9l {l:List Ent} (h:LexFit l) (id:Int):(getE l id).1.alts.length<2^39:=by
 cases hb:(getE l id).2 with
 | true=>exact h.alts _ (zux hb)
 | false=>
  rcases zdd l id with ⟨_,h2⟩ | ⟨j,hj,_,h2⟩
  ·rw [h2];simp [Ent.zero]
  ·rw [h2] at hb;cases hb
theorem zw3 (e:Ent) (h:e.alts.length<2^40):zam Tryz.prog 165 [.agg e.row] (zbh e.forms):=by
 refine zaa mixed Tryz.func165 rfl call_165 ?_
 simp [Tryz.f165,Ent.row,zbh,ints,Ent.forms,maxLen]
 omega
def zal:D→List Sym
 | .agg l=>l.map .d
 | _=>[]
def zhn (l:List Ent) (p:Prt):Ent×List Int×Bool:=
 if (getE l p.entry).2=true∧0≤p.alt∧p.alt<(getE l p.entry).1.forms.length then ((getE l p.entry).1,((getE l p.entry).1.forms[p.alt.toNat]?.getD []),true) else ((getE l p.entry).1,[],false)
def zo2 (r:Ent×List Int×Bool):D:=.tup [.agg r.1.row,ints r.2.1,.bool r.2.2]
set_option maxHeartbeats 4000000 in
theorem z0i (g:Lang) (hg:LexFit g.lex) (p:Prt):zam Tryz.prog 136 [g.d,.agg p.row] (zo2 (zhn g.lex p)):=by
 have hG:=zpz g.lex p.entry hg.len
 have hA:=z9l hg p.entry
 unfold zhn
 generalize getE g.lex p.entry=r at hG hA
 obtain ⟨e,ok⟩:=r
 simp only at hG hA
 have hF:=zw3 e (by omega)
 have hfl:e.forms.length=e.alts.length+1:=by simp [Ent.forms]
 refine zaa mixed Tryz.func136 rfl call_136 ?_
 simp +decide [Tryz.f136,Lang.d,Prt.row,int]
 refine zaj.pure (by rfl) hG (by simp [lexD,int]) ?_
 simp +decide [int,Ent.row]
 refine zaj.pure (by rfl) hF (by simp [lexD,int]) ?_
 cases ok with
 | false=>
  simp +decide [int,Ent.row,zo2,ints]
 | true=>
  by_cases h0:p.alt<0
  ·have h0':¬ 0≤p.alt:=by omega
   simp +decide [int,Ent.row,zo2,ints,h0,h0'];done
  have h0':0≤p.alt:=by omega
  by_cases h1:p.alt<e.forms.length
  ·have hlt:p.alt.toNat<e.forms.length:=by omega
   obtain ⟨w,ew⟩ : ∃ w,e.forms[p.alt.toNat]=w:=⟨_,rfl⟩;have e1:e.forms[p.alt.toNat]?=some w:=by rw [List.getElem?_eq_getElem hlt,ew]
   have h1':¬(e.forms.length:Int)≤p.alt:=by omega
   simp +decide [int,Ent.row,zbh,zo2,h0,h0',h1,h1',e1,ew];refine ygo mixed 6 2 (by rfl) rfl rfl rfl rfl (by rfl) (by simp) ?_
   simp +decide [int,Ent.row,zbh,zo2,ints,h0,h0',h1,h1',e1,ew,hlt]
  ·have h1':(e.forms.length:Int)≤p.alt:=by omega
   simp +decide [int,Ent.row,zbh,zo2,ints,h0,h0',h1,h1']
end Go.V
namespace Go.V
open Go Go.Proofs
def za5 (l:List Ent) (ps:List Prt):List Int:=ps.flatMap fun p=>if (zhn l p).2.2=true then [(zhn l p).1.cls] else []
def zbt (l:List Ent) (ps:List Prt):List Int:=ps.flatMap fun p=>if (zhn l p).2.2=true then (zhn l p).2.1 else []
theorem zuy {l:List Ent} {ps:List Prt} {k:Nat} (h:k<ps.length):za5 l (ps.take (k+1))=za5 l (ps.take k)++(if (zhn l ps[k]).2.2=true then [(zhn l ps[k]).1.cls] else []):=by
 unfold za5;rw [zao h,List.flatMap_append,List.flatMap_singleton]
theorem z5y {l:List Ent} {ps:List Prt} {k:Nat} (h:k<ps.length):zbt l (ps.take (k+1))=zbt l (ps.take k)++(if (zhn l ps[k]).2.2=true then (zhn l ps[k]).2.1 else []):=by
 unfold zbt;rw [zao h,List.flatMap_append,List.flatMap_singleton]
theorem ziq (l:List Ent) : ∀ ps:List Prt,(za5 l ps).length≤ps.length
 | []=>by simp [za5]
 | p::ps=>by
  have:=ziq l ps
  unfold za5 at this ⊢;rw [List.flatMap_cons,List.length_append,List.length_cons];split <;> simp only [List.length_singleton,List.length_nil] <;> omega
theorem zw4 {l:List Ent} (h:LexFit l) (p:Prt):(zhn l p).2.1.length<2^20:=by
 unfold zhn
 split
 ·rename_i hc
  have hlt:p.alt.toNat<(getE l p.entry).1.forms.length:=by omega
  show ((getE l p.entry).1.forms[p.alt.toNat]?.getD []).length<_
  rw [List.getElem?_eq_getElem hlt];exact h.form _ (zux hc.1) _ (List.getElem_mem hlt)
 ·simp
theorem zp1 {l:List Ent} (h:LexFit l) : ∀ ps:List Prt,(zbt l ps).length≤ps.length*2^20
 | []=>by simp [zbt]
 | p::ps=>by
  have h1:=zp1 h ps;have h2:=zw4 h p;unfold zbt at h1 ⊢;rw [List.flatMap_cons,List.length_append,List.length_cons,Nat.add_mul];split
  ·omega
  ·simp only [List.length_nil];omega
set_option maxHeartbeats 4000000 in
theorem z5z (g:Lang) (hg:LexFit g.lex) (ps:List Prt) (hp:ps.length<2^20):zam Tryz.prog 139 [g.d,anaD ps] (ints (za5 g.lex ps)):=by
 refine zaa mixed Tryz.func139 rfl call_139 ?_
 simp +decide [Tryz.f139,Lang.d,anaD,zab,int]
 refine zaf mixed (fun k:Nat=>{n:=33,next:=4,slots:=[(2,.bp 0 0),(5,.ar 3),(12,.d (zab ps)),(13,.d (int ps.length)),(14,.d (int k))],own:=[(0,.box 56 (zal g.d)),(3,.arr 3 1 ((za5 g.lex (ps.take k)).map fun n=>[int n]))],moved:=[3]})
  (fun k=>k≤ps.length) (fun k=>ps.length-k) 0 (by simp) (by simp +decide [int,zab,za5,zal,Lang.d]) ?_
 intro k hk
 by_cases hlt:k<ps.length
 case neg=>
  have:k=ps.length:=by omega
  subst this;rw [List.take_length];simp +decide [int,ints,zab]
 have hlt':(k:Int)<ps.length:=by omega
 have hsn:=zuy (l:=g.lex) hlt
 have hlen:=ziq g.lex (ps.take k)
 rw [List.length_take] at hlen
 obtain ⟨p,ep⟩ : ∃ p,ps[k]=p:=⟨_,rfl⟩
 have e1:ps[k]?=some p:=by rw [List.getElem?_eq_getElem hlt,ep]
 rw [ep] at hsn
 have hF:=z0i g hg p
 generalize zhn g.lex p=r at hF hsn
 obtain ⟨e,w,ok⟩:=r
 simp only at hsn
 simp +decide [int,zab,Prt.row,hlt,hlt',e1,ep,I64,zal,Lang.d]
 refine zaj.pure (by rfl) hF (by simp [Lang.d,Prt.row,int]) ?_
 cases ok with
 | false=>
  simp only [Bool.false_eq_true,if_false,List.append_nil] at hsn;simp +decide [zo2,int,ints,Ent.row,zab,Prt.row,I64,zal,Lang.d];exact ⟨⟨by omega,by omega⟩,k+1,hlt,by omega,by omega,by rw [hsn]⟩
 | true=>
  simp only [if_true] at hsn;simp +decide [zo2,int,ints,Ent.row,zab,Prt.row,I64,zal,Lang.d];exact ⟨by omega,by unfold maxLen;omega,⟨by omega,by omega⟩,k+1,hlt,by omega,by omega,by rw [hsn];simp⟩
set_option maxHeartbeats 4000000 in
theorem z9m (g:Lang) (hg:LexFit g.lex) (ps:List Prt) (hp:ps.length<2^20):zam Tryz.prog 103 [g.d,anaD ps] (ints (zbt g.lex ps)):=by
 refine zaa mixed Tryz.func103 rfl call_103 ?_
 simp +decide [Tryz.f103,Lang.d,anaD,zab,int]
 refine zaf mixed (fun k:Nat=>{n:=31,next:=4,slots:=[(2,.bp 0 0),(5,.ar 3),(12,.d (zab ps)),(13,.d (int ps.length)),(14,.d (int k))],own:=[(0,.box 56 (zal g.d)),(3,.arr 3 1 ((zbt g.lex (ps.take k)).map fun n=>[int n]))],moved:=[3]})
  (fun k=>k≤ps.length) (fun k=>ps.length-k) 0 (by simp) (by simp +decide [int,zab,zbt,zal,Lang.d]) ?_
 intro k hk
 by_cases hlt:k<ps.length
 case neg=>
  have:k=ps.length:=by omega
  subst this;rw [List.take_length];simp +decide [int,ints,zab]
 have hlt':(k:Int)<ps.length:=by omega
 have hsn:=z5y (l:=g.lex) hlt
 have hlen:=zp1 hg (ps.take k)
 rw [List.length_take] at hlen
 obtain ⟨p,ep⟩ : ∃ p,ps[k]=p:=⟨_,rfl⟩
 have e1:ps[k]?=some p:=by rw [List.getElem?_eq_getElem hlt,ep]
 rw [ep] at hsn
 have hF:=z0i g hg p
 have hFl:=zw4 hg p
 generalize zhn g.lex p=r at hF hsn hFl
 obtain ⟨e,w,ok⟩:=r
 simp only at hsn hFl
 simp +decide [int,zab,Prt.row,hlt,hlt',e1,ep,I64,zal,Lang.d]
 refine zaj.pure (by rfl) hF (by simp [Lang.d,Prt.row,int]) ?_
 cases ok with
 | false=>
  simp only [Bool.false_eq_true,if_false,List.append_nil] at hsn;simp +decide [zo2,int,ints,Ent.row,zab,Prt.row,I64,zal,Lang.d];exact ⟨⟨by omega,by omega⟩,k+1,hlt,by omega,by omega,by rw [hsn]⟩
 | true=>
  simp only [if_true] at hsn;simp +decide [zo2,int,ints,Ent.row,zab,Prt.row,I64,zal,Lang.d];exact ⟨by omega,by unfold maxLen;omega,⟨by omega,by omega⟩,k+1,hlt,by omega,by omega,by rw [hsn];simp⟩
end Go.V
namespace Go.V
open Go Go.Proofs
def idxL (l:List Int) (x:Int):Int:=match l.findIdx? (· = x) with
 | some k=>k
 | none=>-1
theorem z3p (l:List Int) (x:Int):(0≤idxL l x↔x∈l):=by
 unfold idxL
 cases h:l.findIdx? (· = x) with
 | none=>
  rw [List.findIdx?_eq_none_iff] at h;constructor
  ·intro e;change (0:Int)≤-1 at e;omega
  ·intro e;have:=h x e;simp at this
 | some k=>
  rw [List.findIdx?_eq_some_iff_getElem] at h;obtain ⟨h1,h2,_⟩:=h;constructor
  ·intro _;have h3:l[k]=x:=by simpa using h2
   rw [← h3];exact List.getElem_mem h1
  ·intro _;exact Int.natCast_nonneg k
theorem z3q (l:List Int) (x:Int) (hl:l.length<2^62):zam Tryz.prog 171 [ints l,int x] (int (idxL l x)):=by
 refine zaa mixed Tryz.func171 rfl call_171 ?_
 simp [Tryz.f171,ints]
 refine zaf mixed (fun k:Nat=>{n:=19,next:=0,slots:=[(0,.d (ints l)),(1,.d (int x)),(6,.d (ints l)),(7,.d (.int .i64 l.length)),(8,.d (.int .i64 k))],own:=[]})
  (fun k=>k≤l.length∧∀ y∈l.take k,y≠x) (fun k=>l.length-k) 0 (by simp) (by simp [ints,int]) ?_
 intro k ⟨hk,hp⟩
 by_cases hlt:k<l.length
 ·have hlt':(k:Int)<l.length:=by omega
  obtain ⟨c,ec⟩ : ∃ c,l[k]=c:=⟨_,rfl⟩;have e1:l[k]?=some c:=by rw [List.getElem?_eq_getElem hlt,ec]
  by_cases hx:c=x
  ·have hf:l.findIdx? (· = x)=some k:=by
    rw [List.findIdx?_eq_some_iff_getElem];refine ⟨hlt,by simpa [ec] using hx,fun j hj=>?_⟩
    have:=hp l[j] (by rw [List.mem_take_iff_getElem];exact ⟨j,by omega,rfl⟩)
    simpa using this
   subst hx;simp +decide [ints,int,e1,ec,hlt,hlt',I64,idxL,hf]
  ·have hx':¬ x=c:=fun e=>hx e.symm
   simp +decide [ints,int,e1,ec,hlt,hlt',hx,hx',I64];exact ⟨⟨by omega,by omega⟩,k+1,⟨hlt,zd7 hlt hp (by rw [ec];exact hx)⟩,by omega,by omega⟩
 ·have:k=l.length:=by omega
  subst this;have hf:l.findIdx? (· = x)=none:=by
   rw [List.findIdx?_eq_none_iff];intro y hy;have:=hp y (by rwa [List.take_length]);simpa using this
  simp +decide [ints,int,idxL,hf]
theorem zw5 (l:List Int) (x:Int) (hl:l.length<2^62):zam Tryz.prog 203 [ints l,int x] (.bool (decide (x∈l))):=by
 refine zaa mixed Tryz.func203 rfl call_203 ?_
 simp +decide [Tryz.f203,int,ints]
 refine zaj.pure (by rfl) (z3q l x hl) (fun _=>rfl) ?_
 have:=z3p l x
 simp +decide [int,this]
theorem z9n (l:List Int) (x:Int) (hl:l.length<2^62):zam Tryz.prog 191 [ints l,int x] (.bool (decide (x∈l))):=by
 refine zaa mixed Tryz.func191 rfl call_191 ?_
 simp +decide [Tryz.f191,int,ints]
 refine zaj.pure (by rfl) (zw5 l x hl) (by simp) ?_
 simp +decide [int]
def ctxD (inv:List Phon) (cs:List Cls):D:=.agg [invD inv,clsD cs]
theorem yd8 (inv:List Phon) (cs:List Cls) (k:Nat) (hk:k<cs.length) (n:Int) (hl:inv.length<2^62):zam Tryz.prog 193 [ctxD inv cs,int k,int n] (.bool (zwq inv n cs[k])):=by
 have hk':(k:Int)<cs.length:=by omega
 obtain ⟨c,ec⟩ : ∃ c,cs[k]=c:=⟨_,rfl⟩
 have e1:cs[k]?=some c:=by rw [List.getElem?_eq_getElem hk,ec]
 rw [ec]
 refine zaa mixed Tryz.func193 rfl call_193 ?_
 simp +decide [Tryz.f193,int,ctxD,clsD,Cls.row,hk,hk',e1,ec]
 refine zae (by rfl) (by rfl) (yjr inv n c hl) (by simp [int,Cls.row]) ?_
 simp +decide [int]
def zw6 (inv:List Phon) (cs:List Cls) (ws:List Int):Bool:=(ws.zip cs).all fun x=>zwq inv x.1 x.2
theorem yd9 {α β:Type} {a:List α} {b:List β} {k:Nat} (h:k<a.length) (h':k<b.length):(a.take (k+1)).zip (b.take (k+1))=(a.take k).zip (b.take k)++[(a[k],b[k])]:=by
 rw [zao h,zao h',List.zip_append (by rw [List.length_take,List.length_take];omega)];rfl
theorem z9o (inv:List Phon) (cs:List Cls) (ws:List Int) (hw:ws.length=cs.length) (hl:inv.length<2^62) (hc:cs.length<2^62) :
  zam Tryz.prog 192 [.fn 193 [],ctxD inv cs,ints ws] (.bool (zw6 inv cs ws)):=by
 refine zaa mixed Tryz.func192 rfl call_192 ?_
 simp +decide [Tryz.f192,int,ctxD,ints]
 refine zaf mixed (fun k:Nat=>{n:=23,next:=1,slots:=[(0,.d (.fn 193 [])),(4,.bp 0 0),(9,.d (ints ws)),(10,.d (.int .i64 ws.length)),(11,.d (.int .i64 k))],own:=[(0,.box 227 [.d (invD inv),.d (clsD cs)])]})
  (fun k=>k≤ws.length∧((ws.take k).zip (cs.take k)).all (fun x=>zwq inv x.1 x.2)=true) (fun k=>ws.length-k) 0 (by simp) (by simp [ints,int]) ?_
 intro k ⟨hk,hp⟩
 by_cases hlt:k<ws.length
 ·have hlt':(k:Int)<ws.length:=by omega
  have hlc:k<cs.length:=by omega
  have hI:=yd8 inv cs k hlc ws[k] hl;have hsn:=yd9 hlt hlc;obtain ⟨c,ec⟩ : ∃ c,ws[k]=c:=⟨_,rfl⟩;have e1:ws[k]?=some c:=by rw [List.getElem?_eq_getElem hlt,ec]
  rw [ec] at hI hsn;simp +decide [ints,int,e1,ec,hlt,hlt',I64];refine zaj.pure (by rfl) hI (by simp [ctxD,int]) ?_
  cases hb:zwq inv c cs[k] with
  | true=>
   simp +decide [ints,int,I64];refine ⟨⟨by omega,by omega⟩,k+1,⟨hlt,?_⟩,by omega,by omega⟩
   intro x y hxy;have hall:((ws.take (k+1)).zip (cs.take (k+1))).all (fun x=>zwq inv x.1 x.2)=true:=by rw [hsn,List.all_append,hp,Bool.true_and];simp [hb]
   exact List.all_eq_true.1 hall (x,y) hxy
  | false=>
   have hf:zw6 inv cs ws=false:=by
    unfold zw6;rw [List.all_eq_false];refine ⟨(c,cs[k]),?_,by rw [hb];decide⟩
    rw [List.mem_iff_getElem];exact ⟨k,by rw [List.length_zip];omega,by rw [List.getElem_zip,ec]⟩
   simp +decide [ints,int,I64,hf]
 ·have:k=ws.length:=by omega
  subst this;rw [List.take_length,hw,List.take_length] at hp;have hf:zw6 inv cs ws=true:=hp
  simp +decide [ints,int,hf]
end Go.V
namespace Go.V
open Go Go.Proofs
def z0j (inv:List Phon) (r:Rule) (w:List Int) (k:Nat):Bool:=
 decide (w[k]?.getD 0∈r.src)&&decide (r.left.length≤k)&&decide (k+1+r.right.length≤w.length) && !(r.beg&&decide (r.left.length<k)) && !(r.fin&&decide (k+1+r.right.length<w.length)) &&
  zw6 inv r.left ((w.take k).drop (k-r.left.length))&&zw6 inv r.right ((w.take (k+1+r.right.length)).drop (k+1))
structure RuleFit (r:Rule):Prop where
 src:r.src.length<2^40
 left:r.left.length<2^40
 right:r.right.length<2^40
set_option maxHeartbeats 4000000 in
theorem yg1 (inv:List Phon) (hl:inv.length<2^62) (r:Rule) (hr:RuleFit r) (w:List Int) (hw:w.length<2^40) (k:Nat) (hk:k<w.length) :
  zam Tryz.prog 170 [.agg [invD inv],.agg r.row,ints w,int k] (.bool (z0j inv r w k)):=by
 obtain ⟨h1,h2,h3⟩:=hr
 obtain ⟨x,ex⟩ : ∃ x,w[k]=x:=⟨_,rfl⟩
 have e1:w[k]?=some x:=by rw [List.getElem?_eq_getElem hk,ex]
 have hk':(k:Int)<w.length:=by omega
 have hH:=z9n r.src x (by omega)
 obtain ⟨R,hR⟩ : ∃ R,z0j inv r w k=R:=⟨_,rfl⟩
 rw [hR]
 unfold z0j at hR
 rw [e1,Option.getD_some] at hR
 refine zaa mixed Tryz.func170 rfl call_170 ?_
 obtain ⟨src,dst,left,right,beg,fin⟩:=r
 simp only at h1 h2 h3 hH hR
 simp +decide [Tryz.f170,int,Rule.row,clsD,I64]
 refine ⟨by omega,by omega,by omega,?_⟩
 simp +decide [ints,e1,ex,hk,hk']
 refine zae (by rfl) (by rfl) hH (by simp [int,ints]) ?_
 by_cases hx:x∈src
 case neg=>
  have:R=false:=by rw [← hR];simp [hx]
  subst this;simp +decide [int,hx]
 by_cases hf:left.length≤k
 case neg=>
  have:R=false:=by rw [← hR];simp [hf]
  subst this;have hf':(k:Int)-left.length<0:=by omega
  simp +decide [int,hx,hf,hf']
 have hf':¬(k:Int)-left.length<0:=by omega
 by_cases ht:k+1+right.length≤w.length
 case neg=>
  have:R=false:=by rw [← hR];simp [ht]
  subst this;have ht':(w.length:Int)<k+1+right.length:=by omega
  simp +decide [int,hx,hf,hf',ht,ht']
 have ht':¬(w.length:Int)<k+1+right.length:=by omega
 by_cases hb:beg=true∧left.length<k
 case pos=>
  obtain ⟨hb1,hb2⟩:=hb;subst hb1;have:R=false:=by rw [← hR];simp [hb2]
  subst this;have hb':(0:Int)<(k:Int)-left.length:=by omega
  simp +decide [int,hx,hf,hf',ht,ht',hb',hb2]
 have hb2:(beg&&decide (left.length<k))=false:=by
  cases beg
  ·rfl
  ·simp at hb;simp [hb]
 by_cases he:fin=true∧k+1+right.length<w.length
 case pos=>
  obtain ⟨he1,he2⟩:=he;subst he1;have:R=false:=by rw [← hR];simp [he2]
  subst this;have he':(k:Int)+1+right.length<w.length:=by omega
  cases beg
  ·simp +decide [int,hx,hf,hf',ht,ht',he',he2]
  ·have hb':¬(0:Int)<(k:Int)-left.length:=by simp at hb;omega
   simp +decide [int,hx,hf,hf',ht,ht',he',he2,hb']
 have he2:(fin&&decide (k+1+right.length<w.length))=false:=by
  cases fin
  ·rfl
  ·simp at he;simp [he]
 have hL1:((w.take k).drop (k-left.length)).length=left.length:=by rw [List.length_drop,List.length_take];omega
 have hR1:((w.take (k+1+right.length)).drop (k+1)).length=right.length:=by rw [List.length_drop,List.length_take];omega
 have hFl:=z9o inv left _ hL1 hl (by omega)
 have hFr:=z9o inv right _ hR1 hl (by omega)
 have eL : ∀ a b,ints ((w.take a).drop b) = .sl (((w.map fun n=>[D.int .i64 n]).take a).drop b):=fun a b=>by simp [ints,List.map_drop,List.map_take]
 rw [eL] at hFl hFr
 rw [hb2,he2] at hR
 generalize zw6 inv left ((w.take k).drop (k-left.length))=b1 at hFl hR
 generalize zw6 inv right ((w.take (k+1+right.length)).drop (k+1))=b2 at hFr hR
 have hR:R=(b1&&b2):=by rw [← hR];simp [hx,hf,ht]
 subst hR
 have hbeg:beg=true→¬(0:Int)<(k:Int)-left.length:=by
  intro e;subst e;simp at hb;omega
 have hfin:fin=true→¬(k:Int)+1+right.length<w.length:=by
  intro e;subst e;simp at he;omega
 have ek:((k:Int)+1+right.length).toNat=k+1+right.length:=by omega
 have ek1:((k:Int)+1).toNat=k+1:=by omega
 rw [← ek] at hFr
 cases beg with
 | false=>
  cases fin with
  | false=>
   simp +decide [int,hx,hf,hf',ht,ht'];refine ⟨⟨by omega,by omega⟩,?_⟩
   refine zae (by rfl) (by rfl) hFl (by simp [int,ints]) ?_
   cases b1 with
   | false=>simp +decide [int]
   | true=>
    simp +decide [int,ints,I64];refine ⟨⟨by omega,by omega⟩,⟨by omega,by omega,by omega⟩,?_⟩
    refine zae (by rfl) (by rfl) hFr (by simp [int,ints]) ?_
    simp +decide [int]
  | true=>
   have:=hfin rfl
   simp +decide [int,hx,hf,hf',ht,ht',this];refine ⟨⟨by omega,by omega⟩,?_⟩
   refine zae (by rfl) (by rfl) hFl (by simp [int,ints]) ?_
   cases b1 with
   | false=>simp +decide [int]
   | true=>
    simp +decide [int,ints,I64];refine ⟨⟨by omega,by omega⟩,⟨by omega,by omega,by omega⟩,?_⟩
    refine zae (by rfl) (by rfl) hFr (by simp [int,ints]) ?_
    simp +decide [int]
 | true=>
  have hb':=hbeg rfl;have hb3:¬ left.length<k:=by omega
  cases fin with
  | false=>
   simp +decide [int,hx,hf,hf',ht,ht',hb',hb3];refine ⟨⟨by omega,by omega⟩,?_⟩
   refine zae (by rfl) (by rfl) hFl (by simp [int,ints]) ?_
   cases b1 with
   | false=>simp +decide [int]
   | true=>
    simp +decide [int,ints,I64];refine ⟨⟨by omega,by omega⟩,⟨by omega,by omega,by omega⟩,?_⟩
    refine zae (by rfl) (by rfl) hFr (by simp [int,ints]) ?_
    simp +decide [int]
  | true=>
   have:=hfin rfl
   simp +decide [int,hx,hf,hf',ht,ht',hb',hb3,this];refine ⟨⟨by omega,by omega⟩,?_⟩
   refine zae (by rfl) (by rfl) hFl (by simp [int,ints]) ?_
   cases b1 with
   | false=>simp +decide [int]
   | true=>
    simp +decide [int,ints,I64];refine ⟨⟨by omega,by omega⟩,⟨by omega,by omega,by omega⟩,?_⟩
    refine zae (by rfl) (by rfl) hFr (by simp [int,ints]) ?_
    simp +decide [int]
def segE (inv:List Phon) (r:Rule) (w:List Int) (k:Nat) (x:Int):List Int:=
 if z0j inv r w k=true then (if r.dst[(idxL r.src x).toNat]?.getD 0=0 then [] else [r.dst[(idxL r.src x).toNat]?.getD 0]) else [x]
def zp2 (inv:List Phon) (r:Rule) (w:List Int):List Int:=(w.zipIdx.map fun x=>segE inv r w x.2 x.1).flatten
theorem z0k {α:Type} {l:List α} {k:Nat} (h:k<l.length):l.zipIdx.take (k+1)=l.zipIdx.take k++[(l[k],k)]:=by
 have h':k<l.zipIdx.length:=by simpa using h
 rw [zao h']
 simp
def zls (inv:List Phon) (r:Rule) (w:List Int) (k:Nat):List Int:=((w.zipIdx.take k).map fun x=>segE inv r w x.2 x.1).flatten
theorem zp3 {inv:List Phon} {r:Rule} {w:List Int} {k:Nat} (h:k<w.length):zls inv r w (k+1)=zls inv r w k++segE inv r w k w[k]:=by
 unfold zls;rw [z0k h,List.map_append,List.flatten_append];simp
theorem yea (inv:List Phon) (r:Rule) (w:List Int) (k:Nat) (x:Int):(segE inv r w k x).length≤1:=by
 unfold segE;split
 ·split <;> simp
 ·simp
theorem zm7 (inv:List Phon) (r:Rule) (w:List Int) : ∀ k,k≤w.length→(zls inv r w k).length≤k
 | 0,_=>by simp [zls]
 | k+1,h=>by
  rw [zp3 (by omega),List.length_append]
  have h1:=zm7 inv r w k (by omega)
  have h2:=yea inv r w k (w[k]'(by omega))
  omega
theorem zs6 (inv:List Phon) (r:Rule) (w:List Int):zls inv r w w.length=zp2 inv r w:=by
 unfold zls zp2
 rw [List.take_of_length_le (by simp)]
structure RuleOk (r:Rule):Prop extends RuleFit r where
 dst:r.dst.length=r.src.length
set_option maxHeartbeats 4000000 in
theorem yeb (inv:List Phon) (hl:inv.length<2^62) (r:Rule) (hr:RuleOk r) (w:List Int) (hw:w.length<2^40) :
  zam Tryz.prog 140 [.agg [invD inv],.agg r.row,ints w] (ints (zp2 inv r w)):=by
 rw [← zs6]
 refine zaa mixed Tryz.func140 rfl call_140 ?_
 simp +decide [Tryz.f140,int,ints,Rule.row]
 refine zaf mixed (fun k:Nat=>{n:=38,next:=4,slots:=[(2,.d (ints w)),(3,.bp 0 0),(4,.bp 1 0),(7,.ar 3),(10,.d (ints w)),(11,.d (int w.length)),(12,.d (int k))],own:=[(0,.box 44 [.d (invD inv)]),(1,.box 117 (r.row.map .d)),(3,.arr 3 1 ((zls inv r w k).map fun n=>[int n]))],moved:=[3]})
  (fun k=>k≤w.length) (fun k=>w.length-k) 0 (by simp) (by simp +decide [int,ints,Rule.row,zls]) ?_
 intro k hk
 by_cases hlt:k<w.length
 case neg=>
  have:k=w.length:=by omega
  subst this;simp +decide [int,ints]
 have hlt':(k:Int)<w.length:=by omega
 have hsn:=zp3 (inv:=inv) (r:=r) hlt
 have hlen:=zm7 inv r w k hk
 have hS:=yg1 inv hl r hr.toRuleFit w hw k hlt
 obtain ⟨x,ex⟩ : ∃ x,w[k]=x:=⟨_,rfl⟩
 have e1:w[k]?=some x:=by rw [List.getElem?_eq_getElem hlt,ex]
 rw [ex] at hsn
 have hI:=z3q r.src x (by have:=hr.src;omega)
 have hmem:=z3p r.src x
 have hidx:x∈r.src→∃ j:Nat,j<r.src.length∧idxL r.src x=j:=by
  intro hx;unfold idxL at hmem ⊢;cases hq:r.src.findIdx? (· = x) with
  | none=>rw [hq] at hmem;exact absurd (hmem.2 hx) (by decide)
  | some j=>
   rw [List.findIdx?_eq_some_iff_getElem] at hq;exact ⟨j,hq.1,rfl⟩
 have hsite:z0j inv r w k=true→x∈r.src:=by
  intro h;unfold z0j at h;simp only [Bool.and_eq_true,decide_eq_true_eq] at h;have:=h.1.1.1.1.1.1
  rwa [e1,Option.getD_some] at this
 have hdst:=hr.dst
 unfold segE at hsn
 simp +decide [int,ints,Rule.row,hlt,hlt',e1,ex,I64]
 refine zaj.pure (by rfl) hS (by simp) ?_
 cases hb:z0j inv r w k with
 | false=>
  rw [hb] at hsn;simp only [Bool.false_eq_true,if_false] at hsn;simp +decide [int,ints,Rule.row,I64];exact ⟨by omega,by unfold maxLen;omega,⟨by omega,by omega⟩,k+1,hlt,by omega,by omega,by rw [hsn];simp⟩
 | true=>
  rw [hb] at hsn;simp only [if_true] at hsn;obtain ⟨j,hj,ej⟩:=hidx (hsite hb);have hjd:j<r.dst.length:=by omega
  obtain ⟨y,ey⟩ : ∃ y,r.dst[j]=y:=⟨_,rfl⟩;have e2:r.dst[j]?=some y:=by rw [List.getElem?_eq_getElem hjd,ey]
  rw [ej,Int.toNat_natCast,e2,Option.getD_some] at hsn;rw [ej] at hI;have hj':(j:Int)<r.dst.length:=by omega
  simp +decide [int,ints,Rule.row,I64];refine zae (by rfl) (by rfl) hI (by simp [int]) ?_
  simp +decide [int,ints,Rule.row,hjd,hj',e2,ey,I64];by_cases hy:y=0
  ·rw [if_pos hy,List.append_nil] at hsn
   simp +decide [int,ints,Rule.row,hy,I64];exact ⟨⟨by omega,by omega⟩,k+1,hlt,by omega,by omega,by rw [hsn]⟩
  ·rw [if_neg hy] at hsn
   simp +decide [int,ints,Rule.row,hy,I64];exact ⟨by omega,by unfold maxLen;omega,⟨by omega,by omega⟩,k+1,hlt,by omega,by omega,by rw [hsn];simp⟩
theorem z6a (inv:List Phon) (r:Rule) (w:List Int):(zp2 inv r w).length≤w.length:=by
 rw [← zs6];exact zm7 inv r w _ (Nat.le_refl _)
def zgu (inv:List Phon) (rs:List Rule) (w:List Int):List Int:=rs.foldl (fun w r=>zp2 inv r w) w
theorem zlt (inv:List Phon) : ∀ (rs:List Rule) (w:List Int),(zgu inv rs w).length≤w.length
 | [],w=>Nat.le_refl _
 | r::rs,w=>by
  have h1:=zlt inv rs (zp2 inv r w);have h2:=z6a inv r w;unfold zgu at h1 ⊢;rw [List.foldl_cons];omega
set_option maxHeartbeats 2000000 in
theorem z9p (inv:List Phon) (hl:inv.length<2^62) (rs:List Rule) (hr : ∀ r∈rs,RuleOk r) (hn:rs.length<2^40) (w:List Int) (hw:w.length<2^40) :
  zam Tryz.prog 102 [.agg [invD inv],zcb rs,ints w] (ints (zgu inv rs w)):=by
 refine zaa mixed Tryz.func102 rfl call_102 ?_
 simp +decide [Tryz.f102,int,ints,zcb]
 refine zaf mixed (fun k:Nat=>{n:=21,next:=2,slots:=[(2,.d (ints (zgu inv (rs.take k) w))),(3,.bp 0 0),(9,.d (zcb rs)),(10,.d (int rs.length)),(11,.d (int k))],own:=[(0,.box 44 [.d (invD inv)])]})
  (fun k=>k≤rs.length) (fun k=>rs.length-k) 0 (by simp) (by simp +decide [int,ints,zcb,zgu]) ?_
 intro k hk
 by_cases hlt:k<rs.length
 case neg=>
  have:k=rs.length:=by omega
  subst this;rw [List.take_length];simp +decide [int,ints,zcb]
 have hlt':(k:Int)<rs.length:=by omega
 have hsn:zgu inv (rs.take (k+1)) w=zp2 inv rs[k] (zgu inv (rs.take k) w):=by unfold zgu;rw [zao hlt,List.foldl_append];rfl
 have hll:=zlt inv (rs.take k) w
 have hro:=hr rs[k] (List.getElem_mem hlt)
 obtain ⟨r,er⟩ : ∃ r,rs[k]=r:=⟨_,rfl⟩
 have e1:rs[k]?=some r:=by rw [List.getElem?_eq_getElem hlt,er]
 rw [er] at hsn hro
 generalize zgu inv (rs.take k) w=u at hsn hll
 have hA:=yeb inv hl r hro u (by omega)
 simp +decide [int,ints,zcb,Rule.row,hlt,hlt',e1,er,I64]
 refine zaj.pure (by rfl) hA (by simp [Rule.row,int]) ?_
 simp +decide [int,ints,zcb,Rule.row,I64]
 exact ⟨⟨by omega,by omega⟩,k+1,hlt,by omega,by rw [hsn],by omega⟩
end Go.V
namespace Go.V
open Go Go.Proofs
structure LangOk (g:Lang):Prop where
 lex:LexFit g.lex
 inv:g.inv.length<2^40
 rules:(∀ r∈g.rules,RuleOk r)∧g.rules.length<2^40
 net:ygz g.net
def zlu (l:List Ent) (p:Prt):Int:=
 if (getE l p.entry).2=false then 9 else if (zhn l p).2.2=false then 2 else if p.sense<0∨(zde l p.entry).length≤p.sense then 22 else 0
def zid (l:List Ent):List Prt→Int
 | []=>0
 | p::ps=>if zlu l p=0 then zid l ps else zlu l p
theorem z0l {l:List Ent} {ps:List Prt} {k:Nat} (h:k<ps.length):zid l (ps.drop k)=if zlu l ps[k]=0 then zid l (ps.drop (k+1)) else zlu l ps[k]:=by
 rw [List.drop_eq_getElem_cons h];rfl
def zgv (g:Lang) (ps:List Prt):Int:=
 if ps.length=0 then 4 else if 4<ps.length then 11 else if zid g.lex ps≠0 then zid g.lex ps else if zhm g.net (za5 g.lex ps)=false then 21 else if 24<(zbt g.lex ps).length then 5 else 0
set_option maxHeartbeats 8000000 in
theorem z6b (g:Lang) (hg:LangOk g) (ps:List Prt) (hp:ps.length<2^20):zam Tryz.prog 101 [g.d,anaD ps] (int (zgv g ps)):=by
 refine zaa mixed Tryz.func101 rfl call_101 ?_
 obtain ⟨R,hR⟩ : ∃ R,zgv g ps=R:=⟨_,rfl⟩
 rw [hR]
 unfold zgv at hR
 by_cases h0:ps.length=0
 ·rw [if_pos h0] at hR
  subst hR;simp +decide [Tryz.f101,Lang.d,anaD,zab,int,h0];done
 rw [if_neg h0] at hR
 by_cases h4:4<ps.length
 ·rw [if_pos h4] at hR
  subst hR;have h4':(4:Int)<ps.length:=by omega
  have h0':¬(ps.length:Int)=0:=by omega
  simp +decide [Tryz.f101,Lang.d,anaD,zab,int,h0,h0',h4,h4'];done
 rw [if_neg h4] at hR
 have h4':¬(4:Int)<ps.length:=by omega
 have h0':¬(ps.length:Int)=0:=by omega
 simp +decide [Tryz.f101,Lang.d,anaD,zab,int,h0,h0',h4,h4']
 refine zaf mixed (fun k:Nat=>{n:=73,next:=2,slots:=[(2,.bp 0 0),(3,.bp 1 0),(21,.d (zab ps)),(22,.d (int ps.length)),(23,.d (int k))],own:=[(0,.box 56 (zal g.d)),(1,.box 31 [.d (zab ps)])]})
  (fun k=>k≤ps.length∧zid g.lex (ps.drop k)=zid g.lex ps) (fun k=>ps.length-k) 0 (by simp) (by simp +decide [int,zab,zal,Lang.d]) ?_
 intro k ⟨hk,hpe⟩
 by_cases hlt:k<ps.length
 case neg=>
  have:k=ps.length:=by omega
  subst this;rw [List.drop_length] at hpe;rw [← hpe] at hR;have hz:zid g.lex []=0:=rfl
  rw [hz,if_neg (by simp)] at hR
  have hC:=z5z g hg.lex ps hp;have hB:=z9m g hg.lex ps hp;have hcl:=ziq g.lex ps;have hA:=z5v g.net hg.net (za5 g.lex ps) (by omega)
  have hbl:=zp1 hg.lex ps;simp +decide [int,zab,zal,Lang.d];refine zae (by rfl) (by rfl) hC (by simp [int]) ?_
  simp +decide [int,zab,zal,Lang.d];refine zae (by rfl) (by rfl) hA (by simp [int]) ?_
  cases hac:zhm g.net (za5 g.lex ps) with
  | false=>
   rw [if_pos hac] at hR;subst hR;simp +decide [int]
  | true=>
   rw [if_neg (by rw [hac];decide)] at hR
   simp +decide [int];refine zaj.pure (by rfl) hB (by simp [int]) ?_
   by_cases hb:24<(zbt g.lex ps).length
   ·rw [if_pos hb] at hR
    subst hR;have hb':(24:Int)<(zbt g.lex ps).length:=by omega
    simp +decide [int,ints,hb,hb']
   ·rw [if_neg hb] at hR
    subst hR;have hb':¬(24:Int)<(zbt g.lex ps).length:=by omega
    simp +decide [int,ints,hb,hb']
 have hlt':(k:Int)<ps.length:=by omega
 have hsn:=z0l (l:=g.lex) hlt
 rw [hpe] at hsn
 obtain ⟨p,ep⟩ : ∃ p,ps[k]=p:=⟨_,rfl⟩
 have e1:ps[k]?=some p:=by rw [List.getElem?_eq_getElem hlt,ep]
 rw [ep] at hsn
 have hG:=zpz g.lex p.entry hg.lex.len
 have hF:=z0i g hg.lex p
 have hS:=zp0 g.lex p.entry hg.lex.len hg.lex.senses
 unfold zlu at hsn
 generalize getE g.lex p.entry=r1 at hG hsn
 generalize zhn g.lex p=r2 at hF hsn
 generalize zde g.lex p.entry=ss at hS hsn
 obtain ⟨e,ok⟩:=r1
 obtain ⟨e2,w,ok2⟩:=r2
 simp only at hsn
 simp +decide [int,zab,Prt.row,hlt,hlt',e1,ep,I64,zal,Lang.d]
 refine zaj.pure (by rfl) hG (by simp [lexD,int]) ?_
 cases ok with
 | false=>
  have:R=9:=by rw [← hR,hsn];simp
  subst this;simp +decide [int,Ent.row]
 | true=>
  simp +decide [int,Ent.row,Prt.row,I64,zal,Lang.d];refine zaj.pure (by rfl) hF (by simp [lexD,int]) ?_
  cases ok2 with
  | false=>
   have:R=2:=by rw [← hR,hsn];simp
   subst this;simp +decide [int,zo2,Ent.row]
  | true=>
   simp +decide [int,zo2,Ent.row,Prt.row,I64,zal,Lang.d];by_cases hs0:p.sense<0
   ·have:R=22:=by rw [← hR,hsn];simp [hs0]
    subst this;simp +decide [int,hs0];intro h;omega
   ·simp +decide [int,hs0]
    intro _;refine zae (by rfl) (by rfl) hS (by simp [zbu]) ?_
    by_cases hs1:(ss.length:Int)≤p.sense
    ·have:R=22:=by rw [← hR,hsn];simp [hs0,hs1]
     subst this;simp +decide [int,zbu,hs1]
    ·have hd:zid g.lex (ps.drop (k+1))=zid g.lex ps:=by rw [hsn];simp [hs0,hs1]
     simp +decide [int,zbu,hs1];exact ⟨⟨by omega,by omega⟩,k+1,⟨hlt,hd⟩,by omega,by simp⟩
end Go.V

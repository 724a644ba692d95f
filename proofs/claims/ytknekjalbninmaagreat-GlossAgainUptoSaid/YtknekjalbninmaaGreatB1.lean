/- A program logic of my own over the kit: part B1. It needs no conditions. -/
import Derived.Test.YtknekjalbninmaaGreatX9
import Derived.Carry
import Derived.ChangeArms
import Derived.WideShapes
import Derived.ChangeOld
import Derived.OpenShut
set_option linter.unusedVariables false
set_option linter.unusedSimpArgs false
set_option linter.unusedSectionVars false
namespace Go.V
variable [Dr] [Ov]
open Go.RowKit Go.WideShapes
inductive Sh where
 |int (k:IntKind)
 |bool
 |str
 |sl (l:List Sh)
 deriving Inhabited
mutual
def yN:D->Sh->Prop
 |.int k n,s=>s = .int k/\(Lit.int k n).wf=true
 |.bool _,s=>s = .bool
 |.str b,s=>s = .str/\b.size<=maxLen
 |.sl l,s=>∃ shs,s = .sl shs/\l.length<=maxLen/\kC l shs
 |_,_=>False
def kC:List (List D)->List Sh->Prop
 | [],_=>True
 |r::rs,shs=>y8 r shs/\kC rs shs
def y8:List D->List Sh->Prop
 | [],shs=>shs=[]
 |d::ds,shs=>∃ s r,shs=s::r/\yN d s/\y8 ds r
end
def Qr(g:Nat->Option (List Sh))(P:Program):List Field->Nat->Option (List Sh)
 | [],_=>some []
 |f::r,off=>if f.offset=off then (match g f.type with
  |some l=>if l.length=P.cellsOf f.type then (match Qr g P r (off+l.length) with
   |some m=>some (l++m)
   |none=>none) else none
  |none=>none) else none
def shapes(P:Program):Nat->Nat->Option (List Sh)
 |0,_=>none
 |n+1,t=>match P.underlying t with
  |some (.int k)=>some [.int k]
  |some .bool=>some [.bool]
  |some .string=>some [.str]
  |some (.slice e)=>(match shapes P n e with
   |some l=>if l.length=P.cellsOf e/\0<l.length then some [.sl l] else none
   |none=>none)
  |some (.struct fs)=>(match Qr (shapes P n) P fs.toList 0 with
   |some l=>if l.length=P.cellsOf t then some l else none
   |none=>none)
  |_=>none
theorem y8.len:∀ {ds:List D} {shs:List Sh},y8 ds shs->ds.length=shs.length
 | [],shs,h=>by simp only[y8] at h;subst h;rfl
 |d::ds,shs,h=>by
  simp only[y8] at h;obtain⟨s,r,rfl,_,H⟩:=h;simp[y8.len H]
theorem y8.app:∀ {ds:List D} {shs:List Sh} {ds':List D} {shs':List Sh},y8 ds shs->y8 ds' shs'->y8 (ds++ds') (shs++shs')
 | [],shs,ds',shs',h,H=>by simp only[y8] at h;subst h;simpa using H
 |d::ds,shs,ds',shs',h,H=>by
  simp only[y8] at h;obtain⟨s,r,rfl,G,F⟩:=h;simp only[List.cons_append,y8];exact⟨s,r++shs',rfl,G,y8.app F H⟩
section
variable {H:Type} {enc:TypeId×Value->H} {P:Program} {w:World} {base:Nat} {spare:Nat->Bool} {held:Bool}
abbrev Ez:Nat->Prop:=λ_=>False
theorem zi.app:∀ {ds:List D} {vs:List Value} {ds':List D} {vs':List Value},zi w Ez ds vs->zi w Ez ds' vs'->zi w Ez (ds++ds') (vs++vs')
 | [],vs,ds',vs',h,H=>by simp only[zi] at h;subst h;simpa using H
 |d::ds,vs,ds',vs',h,H=>by
  simp only[zi] at h;obtain⟨v,us,rfl,G,F,E⟩:=h;simp only[List.cons_append,zi];exact⟨v,us++vs',rfl,G,F,zi.app E H⟩
theorem zi.len:∀ {ds:List D} {vs:List Value},zi w Ez ds vs->ds.length=vs.length
 | [],vs,h=>by simp only[zi] at h;subst h;rfl
 |d::ds,vs,h=>by
  simp only[zi] at h;obtain⟨v,us,rfl,H,G,F⟩:=h;simp[zi.len F]
theorem C9{b:Nat}:∀ {ds:List D} {vs:List Value} {off:Nat},zi w Ez ds vs->(∀ i,i<ds.length->w.cell? ⟨b,off+i,none⟩=vs[i]?)->zX w Ez b ds off
 | [],vs,off,_,_=>by simp[zX]
 |d::ds,vs,off,h,H=>by
  simp only[zi] at h;obtain⟨v,us,rfl,G,F,E⟩:=h;simp only[zX];refine⟨⟨v,by simpa using H 0 (by simp),G,F⟩,C9 E λi hi=>?_⟩
  have:=H (i+1) (by simp;omega)
  simpa[Nat.add_assoc,Nat.add_comm 1 i] using this
theorem Cb{b sz:Nat}:∀ {l:List (List D)} {off:Nat},(∀ i (h:i<l.length),l[i].length=sz/\zX w Ez b l[i] (off+i*sz))->yl w Ez b sz l off
 | [],off,_=>by simp[yl]
 |r::rs,off,h=>by
  simp only[yl];have H:=h 0 (by simp)
  simp at H
  refine⟨H.1,H.2,Cb λi hi=>?_⟩
  have:=h (i+1) (by simp;omega)
  simp only[List.getElem_cons_succ] at this;refine⟨this.1,?_⟩
  have e:off+(i+1)*sz=off+sz+i*sz:=by rw[Nat.add_mul,Nat.one_mul];omega
  rw[<-e];exact this.2
theorem Cc:∀ {l:List (List D)} {shs:List Sh},(∀ i (h:i<l.length),y8 l[i] shs)->kC l shs
 | [],shs,_=>by simp[kC]
 |r::rs,shs,h=>by
  simp only[kC];exact⟨h 0 (by simp),Cc λi hi=>h (i+1) (by simp;omega)⟩
theorem Cd{α:Type}{Q:Nat->α->Prop}:∀ (n:Nat),(∀ i,i<n->∃ a,Q i a)->∃ l:List α,l.length=n/\∀ i (h:i<l.length),Q i l[i]
 |0,_=>⟨[],rfl,λi h=>by simp at h⟩
 |n+1,h=>by
  obtain⟨l,H,G⟩:=Cd n λi hi=>h i (by omega)
  obtain⟨a,F⟩:=h n (by omega)
  refine⟨l++[a],by simp[H],λi hi=>?_⟩
  by_cases e:i<l.length
  .rw[List.getElem_append_left e];exact G i e
  .have:i=l.length:=by simp at hi;omega
   subst this;simp[H,F]
theorem cell_lt{a:Addr}{v:Value}(h:w.cell? a=some v):a.block<w.heap.size:=by
 unfold World.cell? at h
 split at h
 .rename_i H
  exact(Array.getElem?_eq_some_iff.1 H).1
 .simp at h
def Jd(P:Program)(n t:Nat)(d:D):Prop:=
 match P.underlying t with
 |some (.struct _)=>∃ l shs,d = .agg l/\shapes P n t=some shs/\y8 l shs
 |_=>∃ s,shapes P n t=some [s]/\yN d s
def YL(P:Program)(n:Nat):List Nat->List D->Prop
 | [],ds=>ds=[]
 |t::ts,ds=>∃ d r,ds=d::r/\Jd P n t d/\YL P n ts r
theorem Ce(G:laidOutB P=true){w':World}(F:Below w.heap.size w w'):∀ {ts:List Nat} {vs:List Value} {ds:List (DataW H)} {ps:List MemPlace},
  (∀ t∈ts,P.readableRec t=true/\t<P.types.size)->DataW.TrodAll enc P w 0 (λ_=>true) true ts vs ds ps->DataW.TrodAll enc P w' 0 (λb=>decide (b<w.heap.size)) true ts vs ds ps
 | [],vs,ds,ps,_,h=>by
  cases vs <;> cases ds <;> simp[DataW.TrodAll] at h ⊢
  exact h
 |t::ts,vs,ds,ps,E,h=>by
  cases vs with
  |nil=>cases ds <;> simp[DataW.TrodAll] at h
  |cons v vs=>
   cases ds with
   |nil=>simp[DataW.TrodAll] at h
   |cons d ds=>
    simp only[DataW.TrodAll] at h ⊢;obtain⟨p,q,K,J,L⟩:=h;refine⟨p,q,Below.trod G (E t (by simp)).1 (E t (by simp)).2 K F.toBelow ?_,Ce G F (λt ht=>E t (by simp[ht])) J,L⟩
    obtain⟨m,M⟩:=K;exact λx hx=>DataW.trod_lt m _ _ _ M x hx
end
theorem kC.decode{α:Type}{row:α->List D}{shs:List Sh}{good:α->Prop}(h:∀ r,y8 r shs->∃ x,r=row x/\good x):∀ {l:List (List D)},kC l shs->∃ xs:List α,l=xs.map row/\∀ x∈xs,good x
 | [],_=>⟨[],rfl,by simp⟩
 |r::rs,G=>by
  simp only[kC] at G;obtain⟨x,rfl,F⟩:=h r G.1;obtain⟨xs,rfl,H⟩:=kC.decode h G.2;exact⟨x::xs,rfl,by simpa using⟨F,H⟩⟩
theorem yN.YM{α:Type}{row:α->List D}{shs:List Sh}{good:α->Prop}(h:∀ r,y8 r shs->∃ x,r=row x/\good x){d:D}(H:yN d (.sl shs)):∃ xs:List α,d = .sl (xs.map row)/\xs.length<=maxLen/\∀ x∈xs,good x:=by
 cases d <;> simp[yN] at H
 obtain⟨G,F⟩:=H
 obtain⟨xs,rfl,E⟩:=kC.decode h F
 exact⟨xs,rfl,by simpa using G,E⟩
theorem yN.xI{d:D}{k:IntKind}(H:yN d (.int k)):∃ n,d = .int k n/\(Lit.int k n).wf=true:=by
 cases d <;> simp[yN] at H
 obtain⟨rfl,h⟩:=H
 exact⟨_,rfl,h⟩
theorem yN.U4{d:D}(H:yN d .bool):∃ b,d = .bool b:=by
 cases d <;> simp[yN] at H
 exact⟨_,rfl⟩
theorem yN.gW{d:D}(H:yN d .str):∃ s,d = .str s/\s.size<=maxLen:=by
 cases d <;> simp[yN] at H
 exact⟨_,rfl,H⟩
theorem y8.zU{ds:List D}{s:Sh}{shs:List Sh}(h:y8 ds (s::shs)):∃ d r,ds=d::r/\yN d s/\y8 r shs:=by
 cases ds with
 |nil=>simp[y8] at h
 |cons d r=>
  simp only[y8] at h;obtain⟨s',r',e,H,G⟩:=h;cases e;exact⟨d,r,rfl,H,G⟩
theorem y8.ja{ds:List D}(h:y8 ds []):ds=[]:=by
 cases ds with
 |nil=>rfl
 |cons d r=>
  simp only[y8] at h;obtain⟨s',r',e,_⟩:=h;cases e
end Go.V

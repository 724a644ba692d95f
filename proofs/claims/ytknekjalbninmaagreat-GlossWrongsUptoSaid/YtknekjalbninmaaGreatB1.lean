/- A program logic of my own over the kit: part B1. It needs no conditions. -/
import Derived.Test.YtknekjalbninmaaGreatX9
import Derived.Carry
import Derived.ChangeArms
import Derived.WideShapes
import Derived.ChangeOld
import Derived.OpenShut
set_option linter.unusedVariables false
set_option linter.unusedSimpArgs false
set_option linter.unusedSectionVars false
namespace Go.V
variable [Dr] [Ov]
open Go.RowKit Go.WideShapes
inductive Sh where
 |int (k:IntKind)
 |bool
 |str
 |sl (l:List Sh)
 deriving Inhabited
mutual
def yC:D->Sh->Prop
 |.int k n,s=>s = .int k/\(Lit.int k n).wf=true
 |.bool _,s=>s = .bool
 |.str b,s=>s = .str/\b.size<=maxLen
 |.sl l,s=>∃ shs,s = .sl shs/\l.length<=maxLen/\wS l shs
 |_,_=>False
def wS:List (List D)->List Sh->Prop
 | [],_=>True
 |r::rs,shs=>y4 r shs/\wS rs shs
def y4:List D->List Sh->Prop
 | [],shs=>shs=[]
 |d::ds,shs=>∃ s r,shs=s::r/\yC d s/\y4 ds r
end
def XC(g:Nat->Option (List Sh))(P:Program):List Field->Nat->Option (List Sh)
 | [],_=>some []
 |f::r,off=>if f.offset=off then (match g f.type with
  |some l=>if l.length=P.cellsOf f.type then (match XC g P r (off+l.length) with
   |some m=>some (l++m)
   |none=>none) else none
  |none=>none) else none
def shapes(P:Program):Nat->Nat->Option (List Sh)
 |0,_=>none
 |n+1,t=>match P.underlying t with
  |some (.int k)=>some [.int k]
  |some .bool=>some [.bool]
  |some .string=>some [.str]
  |some (.slice e)=>(match shapes P n e with
   |some l=>if l.length=P.cellsOf e/\0<l.length then some [.sl l] else none
   |none=>none)
  |some (.struct fs)=>(match XC (shapes P n) P fs.toList 0 with
   |some l=>if l.length=P.cellsOf t then some l else none
   |none=>none)
  |_=>none
theorem y4.len:∀ {ds:List D} {shs:List Sh},y4 ds shs->ds.length=shs.length
 | [],shs,h=>by simp only[y4] at h;subst h;rfl
 |d::ds,shs,h=>by
  simp only[y4] at h;obtain⟨s,r,rfl,_,H⟩:=h;simp[y4.len H]
theorem y4.app:∀ {ds:List D} {shs:List Sh} {ds':List D} {shs':List Sh},y4 ds shs->y4 ds' shs'->y4 (ds++ds') (shs++shs')
 | [],shs,ds',shs',h,H=>by simp only[y4] at h;subst h;simpa using H
 |d::ds,shs,ds',shs',h,H=>by
  simp only[y4] at h;obtain⟨s,r,rfl,G,F⟩:=h;simp only[List.cons_append,y4];exact⟨s,r++shs',rfl,G,y4.app F H⟩
section
variable {H:Type} {enc:TypeId×Value->H} {P:Program} {w:World} {base:Nat} {spare:Nat->Bool} {held:Bool}
abbrev Ez:Nat->Prop:=λ_=>False
theorem zm.app:∀ {ds:List D} {vs:List Value} {ds':List D} {vs':List Value},zm w Ez ds vs->zm w Ez ds' vs'->zm w Ez (ds++ds') (vs++vs')
 | [],vs,ds',vs',h,H=>by simp only[zm] at h;subst h;simpa using H
 |d::ds,vs,ds',vs',h,H=>by
  simp only[zm] at h;obtain⟨v,us,rfl,G,F,E⟩:=h;simp only[List.cons_append,zm];exact⟨v,us++vs',rfl,G,F,zm.app E H⟩
theorem zm.len:∀ {ds:List D} {vs:List Value},zm w Ez ds vs->ds.length=vs.length
 | [],vs,h=>by simp only[zm] at h;subst h;rfl
 |d::ds,vs,h=>by
  simp only[zm] at h;obtain⟨v,us,rfl,H,G,F⟩:=h;simp[zm.len F]
theorem fS{b:Nat}:∀ {ds:List D} {vs:List Value} {off:Nat},zm w Ez ds vs->(∀ i,i<ds.length->w.cell? ⟨b,off+i,none⟩=vs[i]?)->zZ w Ez b ds off
 | [],vs,off,_,_=>by simp[zZ]
 |d::ds,vs,off,h,H=>by
  simp only[zm] at h;obtain⟨v,us,rfl,G,F,E⟩:=h;simp only[zZ];refine⟨⟨v,by simpa using H 0 (by simp),G,F⟩,fS E λi hi=>?_⟩
  have:=H (i+1) (by simp;omega)
  simpa[Nat.add_assoc,Nat.add_comm 1 i] using this
theorem FT{b sz:Nat}:∀ {l:List (List D)} {off:Nat},(∀ i (h:i<l.length),l[i].length=sz/\zZ w Ez b l[i] (off+i*sz))->ya w Ez b sz l off
 | [],off,_=>by simp[ya]
 |r::rs,off,h=>by
  simp only[ya];have H:=h 0 (by simp)
  simp at H
  refine⟨H.1,H.2,FT λi hi=>?_⟩
  have:=h (i+1) (by simp;omega)
  simp only[List.getElem_cons_succ] at this;refine⟨this.1,?_⟩
  have e:off+(i+1)*sz=off+sz+i*sz:=by rw[Nat.add_mul,Nat.one_mul];omega
  rw[<-e];exact this.2
theorem FU:∀ {l:List (List D)} {shs:List Sh},(∀ i (h:i<l.length),y4 l[i] shs)->wS l shs
 | [],shs,_=>by simp[wS]
 |r::rs,shs,h=>by
  simp only[wS];exact⟨h 0 (by simp),FU λi hi=>h (i+1) (by simp;omega)⟩
theorem FV{α:Type}{Q:Nat->α->Prop}:∀ (n:Nat),(∀ i,i<n->∃ a,Q i a)->∃ l:List α,l.length=n/\∀ i (h:i<l.length),Q i l[i]
 |0,_=>⟨[],rfl,λi h=>by simp at h⟩
 |n+1,h=>by
  obtain⟨l,H,G⟩:=FV n λi hi=>h i (by omega)
  obtain⟨a,F⟩:=h n (by omega)
  refine⟨l++[a],by simp[H],λi hi=>?_⟩
  by_cases e:i<l.length
  .rw[List.getElem_append_left e];exact G i e
  .have:i=l.length:=by simp at hi;omega
   subst this;simp[H,F]
theorem cell_lt{a:Addr}{v:Value}(h:w.cell? a=some v):a.block<w.heap.size:=by
 unfold World.cell? at h
 split at h
 .rename_i H
  exact(Array.getElem?_eq_some_iff.1 H).1
 .simp at h
def Vn(P:Program)(n t:Nat)(d:D):Prop:=
 match P.underlying t with
 |some (.struct _)=>∃ l shs,d = .agg l/\shapes P n t=some shs/\y4 l shs
 |_=>∃ s,shapes P n t=some [s]/\yC d s
def Ye(P:Program)(n:Nat):List Nat->List D->Prop
 | [],ds=>ds=[]
 |t::ts,ds=>∃ d r,ds=d::r/\Vn P n t d/\Ye P n ts r
theorem FX(G:laidOutB P=true){w':World}(F:Below w.heap.size w w'):∀ {ts:List Nat} {vs:List Value} {ds:List (DataW H)} {ps:List MemPlace},
  (∀ t∈ts,P.readableRec t=true/\t<P.types.size)->DataW.TrodAll enc P w 0 (λ_=>true) true ts vs ds ps->DataW.TrodAll enc P w' 0 (λb=>decide (b<w.heap.size)) true ts vs ds ps
 | [],vs,ds,ps,_,h=>by
  cases vs <;> cases ds <;> simp[DataW.TrodAll] at h ⊢
  exact h
 |t::ts,vs,ds,ps,E,h=>by
  cases vs with
  |nil=>cases ds <;> simp[DataW.TrodAll] at h
  |cons v vs=>
   cases ds with
   |nil=>simp[DataW.TrodAll] at h
   |cons d ds=>
    simp only[DataW.TrodAll] at h ⊢;obtain⟨p,q,K,J,L⟩:=h;refine⟨p,q,Below.trod G (E t (by simp)).1 (E t (by simp)).2 K F.toBelow ?_,FX G F (λt ht=>E t (by simp[ht])) J,L⟩
    obtain⟨m,M⟩:=K;exact λx hx=>DataW.trod_lt m _ _ _ M x hx
end
theorem wS.decode{α:Type}{row:α->List D}{shs:List Sh}{good:α->Prop}(h:∀ r,y4 r shs->∃ x,r=row x/\good x):∀ {l:List (List D)},wS l shs->∃ xs:List α,l=xs.map row/\∀ x∈xs,good x
 | [],_=>⟨[],rfl,by simp⟩
 |r::rs,G=>by
  simp only[wS] at G;obtain⟨x,rfl,F⟩:=h r G.1;obtain⟨xs,rfl,H⟩:=wS.decode h G.2;exact⟨x::xs,rfl,by simpa using⟨F,H⟩⟩
theorem yC.Yf{α:Type}{row:α->List D}{shs:List Sh}{good:α->Prop}(h:∀ r,y4 r shs->∃ x,r=row x/\good x){d:D}(H:yC d (.sl shs)):∃ xs:List α,d = .sl (xs.map row)/\xs.length<=maxLen/\∀ x∈xs,good x:=by
 cases d <;> simp[yC] at H
 obtain⟨G,F⟩:=H
 obtain⟨xs,rfl,E⟩:=wS.decode h F
 exact⟨xs,rfl,by simpa using G,E⟩
theorem yC.xl{d:D}{k:IntKind}(H:yC d (.int k)):∃ n,d = .int k n/\(Lit.int k n).wf=true:=by
 cases d <;> simp[yC] at H
 obtain⟨rfl,h⟩:=H
 exact⟨_,rfl,h⟩
theorem yC.WU{d:D}(H:yC d .bool):∃ b,d = .bool b:=by
 cases d <;> simp[yC] at H
 exact⟨_,rfl⟩
theorem yC.uY{d:D}(H:yC d .str):∃ s,d = .str s/\s.size<=maxLen:=by
 cases d <;> simp[yC] at H
 exact⟨_,rfl,H⟩
theorem y4.zW{ds:List D}{s:Sh}{shs:List Sh}(h:y4 ds (s::shs)):∃ d r,ds=d::r/\yC d s/\y4 r shs:=by
 cases ds with
 |nil=>simp[y4] at h
 |cons d r=>
  simp only[y4] at h;obtain⟨s',r',e,H,G⟩:=h;cases e;exact⟨d,r,rfl,H,G⟩
theorem y4.vJ{ds:List D}(h:y4 ds []):ds=[]:=by
 cases ds with
 |nil=>rfl
 |cons d r=>
  simp only[y4] at h;obtain⟨s',r',e,_⟩:=h;cases e
end Go.V

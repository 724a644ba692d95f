/- A program logic of my own over the kit: part B1. It needs no conditions. -/
import Derived.Test.YtknekjalbninmaaGreatX9
import Derived.Carry
import Derived.ChangeArms
import Derived.WideShapes
import Derived.ChangeOld
import Derived.OpenShut
set_option linter.unusedVariables false
set_option linter.unusedSimpArgs false
set_option linter.unusedSectionVars false
namespace Go.V
variable [Dr] [Ov]
open Go.RowKit Go.WideShapes
inductive Sh where
 |int (k:IntKind)
 |bool
 |str
 |sl (l:List Sh)
 deriving Inhabited
mutual
def yI:D->Sh->Prop
 |.int k n,s=>s = .int k/\(Lit.int k n).wf=true
 |.bool _,s=>s = .bool
 |.str b,s=>s = .str/\b.size<=maxLen
 |.sl l,s=>∃ shs,s = .sl shs/\l.length<=maxLen/\kp l shs
 |_,_=>False
def kp:List (List D)->List Sh->Prop
 | [],_=>True
 |r::rs,shs=>y5 r shs/\kp rs shs
def y5:List D->List Sh->Prop
 | [],shs=>shs=[]
 |d::ds,shs=>∃ s r,shs=s::r/\yI d s/\y5 ds r
end
def Qa(g:Nat->Option (List Sh))(P:Program):List Field->Nat->Option (List Sh)
 | [],_=>some []
 |f::r,off=>if f.offset=off then (match g f.type with
  |some l=>if l.length=P.cellsOf f.type then (match Qa g P r (off+l.length) with
   |some m=>some (l++m)
   |none=>none) else none
  |none=>none) else none
def shapes(P:Program):Nat->Nat->Option (List Sh)
 |0,_=>none
 |n+1,t=>match P.underlying t with
  |some (.int k)=>some [.int k]
  |some .bool=>some [.bool]
  |some .string=>some [.str]
  |some (.slice e)=>(match shapes P n e with
   |some l=>if l.length=P.cellsOf e/\0<l.length then some [.sl l] else none
   |none=>none)
  |some (.struct fs)=>(match Qa (shapes P n) P fs.toList 0 with
   |some l=>if l.length=P.cellsOf t then some l else none
   |none=>none)
  |_=>none
theorem y5.len:∀ {ds:List D} {shs:List Sh},y5 ds shs->ds.length=shs.length
 | [],shs,h=>by simp only[y5] at h;subst h;rfl
 |d::ds,shs,h=>by
  simp only[y5] at h;obtain⟨s,r,rfl,_,H⟩:=h;simp[y5.len H]
theorem y5.app:∀ {ds:List D} {shs:List Sh} {ds':List D} {shs':List Sh},y5 ds shs->y5 ds' shs'->y5 (ds++ds') (shs++shs')
 | [],shs,ds',shs',h,H=>by simp only[y5] at h;subst h;simpa using H
 |d::ds,shs,ds',shs',h,H=>by
  simp only[y5] at h;obtain⟨s,r,rfl,G,F⟩:=h;simp only[List.cons_append,y5];exact⟨s,r++shs',rfl,G,y5.app F H⟩
section
variable {H:Type} {enc:TypeId×Value->H} {P:Program} {w:World} {base:Nat} {spare:Nat->Bool} {held:Bool}
abbrev Ez:Nat->Prop:=λ_=>False
theorem zi.app:∀ {ds:List D} {vs:List Value} {ds':List D} {vs':List Value},zi w Ez ds vs->zi w Ez ds' vs'->zi w Ez (ds++ds') (vs++vs')
 | [],vs,ds',vs',h,H=>by simp only[zi] at h;subst h;simpa using H
 |d::ds,vs,ds',vs',h,H=>by
  simp only[zi] at h;obtain⟨v,us,rfl,G,F,E⟩:=h;simp only[List.cons_append,zi];exact⟨v,us++vs',rfl,G,F,zi.app E H⟩
theorem zi.len:∀ {ds:List D} {vs:List Value},zi w Ez ds vs->ds.length=vs.length
 | [],vs,h=>by simp only[zi] at h;subst h;rfl
 |d::ds,vs,h=>by
  simp only[zi] at h;obtain⟨v,us,rfl,H,G,F⟩:=h;simp[zi.len F]
theorem Dl{b:Nat}:∀ {ds:List D} {vs:List Value} {off:Nat},zi w Ez ds vs->(∀ i,i<ds.length->w.cell? ⟨b,off+i,none⟩=vs[i]?)->y0 w Ez b ds off
 | [],vs,off,_,_=>by simp[y0]
 |d::ds,vs,off,h,H=>by
  simp only[zi] at h;obtain⟨v,us,rfl,G,F,E⟩:=h;simp only[y0];refine⟨⟨v,by simpa using H 0 (by simp),G,F⟩,Dl E λi hi=>?_⟩
  have:=H (i+1) (by simp;omega)
  simpa[Nat.add_assoc,Nat.add_comm 1 i] using this
theorem Dm{b sz:Nat}:∀ {l:List (List D)} {off:Nat},(∀ i (h:i<l.length),l[i].length=sz/\y0 w Ez b l[i] (off+i*sz))->yg w Ez b sz l off
 | [],off,_=>by simp[yg]
 |r::rs,off,h=>by
  simp only[yg];have H:=h 0 (by simp)
  simp at H
  refine⟨H.1,H.2,Dm λi hi=>?_⟩
  have:=h (i+1) (by simp;omega)
  simp only[List.getElem_cons_succ] at this;refine⟨this.1,?_⟩
  have e:off+(i+1)*sz=off+sz+i*sz:=by rw[Nat.add_mul,Nat.one_mul];omega
  rw[<-e];exact this.2
theorem Dn:∀ {l:List (List D)} {shs:List Sh},(∀ i (h:i<l.length),y5 l[i] shs)->kp l shs
 | [],shs,_=>by simp[kp]
 |r::rs,shs,h=>by
  simp only[kp];exact⟨h 0 (by simp),Dn λi hi=>h (i+1) (by simp;omega)⟩
theorem Do{α:Type}{Q:Nat->α->Prop}:∀ (n:Nat),(∀ i,i<n->∃ a,Q i a)->∃ l:List α,l.length=n/\∀ i (h:i<l.length),Q i l[i]
 |0,_=>⟨[],rfl,λi h=>by simp at h⟩
 |n+1,h=>by
  obtain⟨l,H,G⟩:=Do n λi hi=>h i (by omega)
  obtain⟨a,F⟩:=h n (by omega)
  refine⟨l++[a],by simp[H],λi hi=>?_⟩
  by_cases e:i<l.length
  .rw[List.getElem_append_left e];exact G i e
  .have:i=l.length:=by simp at hi;omega
   subst this;simp[H,F]
theorem cell_lt{a:Addr}{v:Value}(h:w.cell? a=some v):a.block<w.heap.size:=by
 unfold World.cell? at h
 split at h
 .rename_i H
  exact(Array.getElem?_eq_some_iff.1 H).1
 .simp at h
def J0(P:Program)(n t:Nat)(d:D):Prop:=
 match P.underlying t with
 |some (.struct _)=>∃ l shs,d = .agg l/\shapes P n t=some shs/\y5 l shs
 |_=>∃ s,shapes P n t=some [s]/\yI d s
def Yx(P:Program)(n:Nat):List Nat->List D->Prop
 | [],ds=>ds=[]
 |t::ts,ds=>∃ d r,ds=d::r/\J0 P n t d/\Yx P n ts r
theorem Dp(G:laidOutB P=true){w':World}(F:Below w.heap.size w w'):∀ {ts:List Nat} {vs:List Value} {ds:List (DataW H)} {ps:List MemPlace},
  (∀ t∈ts,P.readableRec t=true/\t<P.types.size)->DataW.TrodAll enc P w 0 (λ_=>true) true ts vs ds ps->DataW.TrodAll enc P w' 0 (λb=>decide (b<w.heap.size)) true ts vs ds ps
 | [],vs,ds,ps,_,h=>by
  cases vs <;> cases ds <;> simp[DataW.TrodAll] at h ⊢
  exact h
 |t::ts,vs,ds,ps,E,h=>by
  cases vs with
  |nil=>cases ds <;> simp[DataW.TrodAll] at h
  |cons v vs=>
   cases ds with
   |nil=>simp[DataW.TrodAll] at h
   |cons d ds=>
    simp only[DataW.TrodAll] at h ⊢;obtain⟨p,q,K,J,L⟩:=h;refine⟨p,q,Below.trod G (E t (by simp)).1 (E t (by simp)).2 K F.toBelow ?_,Dp G F (λt ht=>E t (by simp[ht])) J,L⟩
    obtain⟨m,M⟩:=K;exact λx hx=>DataW.trod_lt m _ _ _ M x hx
end
theorem kp.decode{α:Type}{row:α->List D}{shs:List Sh}{good:α->Prop}(h:∀ r,y5 r shs->∃ x,r=row x/\good x):∀ {l:List (List D)},kp l shs->∃ xs:List α,l=xs.map row/\∀ x∈xs,good x
 | [],_=>⟨[],rfl,by simp⟩
 |r::rs,G=>by
  simp only[kp] at G;obtain⟨x,rfl,F⟩:=h r G.1;obtain⟨xs,rfl,H⟩:=kp.decode h G.2;exact⟨x::xs,rfl,by simpa using⟨F,H⟩⟩
theorem yI.Yy{α:Type}{row:α->List D}{shs:List Sh}{good:α->Prop}(h:∀ r,y5 r shs->∃ x,r=row x/\good x){d:D}(H:yI d (.sl shs)):∃ xs:List α,d = .sl (xs.map row)/\xs.length<=maxLen/\∀ x∈xs,good x:=by
 cases d <;> simp[yI] at H
 obtain⟨G,F⟩:=H
 obtain⟨xs,rfl,E⟩:=kp.decode h F
 exact⟨xs,rfl,by simpa using G,E⟩
theorem yI.xu{d:D}{k:IntKind}(H:yI d (.int k)):∃ n,d = .int k n/\(Lit.int k n).wf=true:=by
 cases d <;> simp[yI] at H
 obtain⟨rfl,h⟩:=H
 exact⟨_,rfl,h⟩
theorem yI.Kz{d:D}(H:yI d .bool):∃ b,d = .bool b:=by
 cases d <;> simp[yI] at H
 exact⟨_,rfl⟩
theorem yI.gG{d:D}(H:yI d .str):∃ s,d = .str s/\s.size<=maxLen:=by
 cases d <;> simp[yI] at H
 exact⟨_,rfl,H⟩
theorem y5.zW{ds:List D}{s:Sh}{shs:List Sh}(h:y5 ds (s::shs)):∃ d r,ds=d::r/\yI d s/\y5 r shs:=by
 cases ds with
 |nil=>simp[y5] at h
 |cons d r=>
  simp only[y5] at h;obtain⟨s',r',e,H,G⟩:=h;cases e;exact⟨d,r,rfl,H,G⟩
theorem y5.vY{ds:List D}(h:y5 ds []):ds=[]:=by
 cases ds with
 |nil=>rfl
 |cons d r=>
  simp only[y5] at h;obtain⟨s',r',e,_⟩:=h;cases e
end Go.V

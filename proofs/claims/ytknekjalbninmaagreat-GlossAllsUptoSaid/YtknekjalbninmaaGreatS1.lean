/- A program logic of my own over the kit: part S1. It needs no conditions. -/
import Derived.Test.YtknekjalbninmaaGreatW1
import Derived.Shelf.SlSortCmp.InsertionK
set_option linter.all false
namespace Go.V
variable [Dr] [Ov]
open Go.RowKit Go.Sort Go.Proofs
structure cK{α:Type}(cv:α->List Value)(row:α->List D)(k:Nat):Prop where
 pos:0<k
 len:∀ x,(cv x).length=k
 cB:∀ x,∀ v∈cv x,v.oneCell'=true
 mH:∀ x,(row x).length=k
 read:∀ w E x,zl w E (row x) (cv x)
 fx:∀ w E x vs,zl w E (row x) vs->vs=cv x
theorem zl.split{w:World}{E:Nat->Prop}:∀ {a b:List D} {vs:List Value},zl w E (a++b) vs->∃ v1 v2,vs=v1++v2/\zl w E a v1/\zl w E b v2
 | [],b,vs,h=>⟨[],vs,rfl,by simp[zl],h⟩
 |x::a,b,vs,h=>by
  simp only[nV,zl] at h;obtain⟨v,vs',rfl,H,G,F⟩:=h;obtain⟨v1,v2,rfl,q1,q2⟩:=zl.split F;exact⟨v::v1,v2,rfl,by simp only[zl];exact⟨v,v1,rfl,H,G,q1⟩,q2⟩
theorem zl.nC{w:World}{E:Nat->Prop}:∀ {a b:List D} {v1 v2:List Value},zl w E a v1->zl w E b v2->zl w E (a++b) (v1++v2)
 | [],b,v1,v2,h,H=>by simp only[zl] at h;subst h;exact H
 |x::a,b,v1,v2,h,H=>by
  simp only[zl] at h;obtain⟨v,vs',rfl,G,F,K⟩:=h;simp only[nV,zl];exact⟨v,_,rfl,G,F,zl.nC K H⟩
section
variable {α:Type} {cv:α->List Value} {row:α->List D} {k:Nat}
theorem cK.i_(h:cK cv row k){w:World}{E:Nat->Prop}:∀ (l:List α) (vs:List Value),zl w E (l.map row).flatten vs->vs=(l.map cv).flatten
 | [],vs,H=>by simpa[zl] using H
 |x::l,vs,H=>by
  simp only[nK,oZ] at H ⊢;obtain⟨v1,v2,rfl,G,F⟩:=H.split;rw[h.fx w E x v1 G,h.i_ l v2 F]
theorem cK.jx(h:cK cv row k){w:World}{E:Nat->Prop}:∀ (l:List α),zl w E (l.map row).flatten (l.map cv).flatten
 | []=>by simp[zl]
 |x::l=>by
  simp only[nK,oZ];exact(h.read w E x).nC (h.jx l)
theorem cK.KO(h:cK cv row k)(l:List α):(l.map cv).flatten.length=l.length*k:=by
 induction l with
 |nil=>simp
 |cons x l ih=>simp only[nK,oZ,nO,ih,h.len,nP,oR];omega
theorem cK.zr7(h:cK cv row k)(l:List α):∀ u∈(l.map cv).flatten,u.oneCell'=true:=by
 intro u H
 obtain⟨r,G,H⟩:=xv.1 H
 obtain⟨x,_,rfl⟩:=nS.1 G
 exact h.cB x u H
theorem cK.get(h:cK cv row k)[Inhabited α]:∀ (l:List α) (t:Nat),t<l.length*k->(l.map cv).flatten[t]?=some ((cv l[t/k]!)[t%k]!)
 | [],t,ht=>by simp at ht
 |x::l,t,ht=>by
  simp only[nK,oZ];rcases pe t k with H | hge
  .rw[pl (by rw[h.len];exact H),Nat.div_eq_of_lt H,xV H]
   have:t<(cv x).length:=by rw[h.len];exact H
   simp[this]
  .obtain⟨s,rfl⟩:∃ s,t=k+s:=⟨t-k,by omega⟩
   rw[pF (by rw[h.len];omega),h.len,tf,Nat.add_div_left s h.pos,Nat.add_mod_left]
   rw[h.get l s (by simp only[nP,oR] at ht;omega)]
   simp
theorem cK.flatK(h:cK cv row k)[Inhabited α](l:List α):(flatK cv k l.toArray).toList=(l.map cv).flatten:=by
 apply ro
 intro t
 by_cases H:t<l.length*k
 .rw[h.get l t H]
  have hs:t<(Sort.flatK cv k l.toArray).size:=by simpa using H
  have G:=get_flatK cv k l.toArray t (by simpa using H)
  rw[Ay _ t hs] at G;rw[ru,qz hs,G];simp
 .rw[ra (by simp;omega),ra (by rw[h.KO];omega)]
end
section
variable {P:Program} {α:Type} [Inhabited α] {cv:α->List Value} {row:α->List D} {k T:Nat}
theorem zbk(F cur:Array Value)(h:F.size<=cur.size):(putCells id 0 F cur).toList=F.toList++cur.toList.drop F.size:=by
 apply ro
 intro t
 unfold putCells
 rw[ru,Array.getElem?_mapIdx]
 by_cases H:t<F.size
 .rw[pl (by simpa using H),qz (by omega)]
  simp[H]
 .rw[pF (by simp;omega),oQ,oM]
  rw[show F.size+(t-F.size)=t by omega,ru]
  simp[H]
theorem zh0{w:World}{g:Nat}{cur:Array Value}{fz:Nat×Nat}(d:Array α)(H:w.heap[g]?=some (.cells cur T fz)):
  (putRowK cv k w g 0 d).heap[g]?=some (.cells (putCells id 0 (flatK cv k d) cur) T fz):=by
 unfold putRowK putRow mapBlock
 simp[rR,H,onCells]
theorem zbl{w:World}{g c:Nat}(d:Array α)(H:c≠g):(putRowK cv k w g 0 d).heap[c]?=w.heap[c]?:=by
 unfold putRowK putRow mapBlock
 simp[rR,se H]
theorem CO(h:cK cv row k){f:Nat}(H:aN P f=true){aC:List ah}{l l':List α}(A:l≠[])(J:l'.length=l.length)
  (G:∀ w E β vs,zi w E β aC vs->fp w E->∀ (g cap:Nat),g<w.heap.size->E g->HoldsK cv k w g 0 l.toArray ->
   Calls P f (Value.slice (some ⟨g,0,none⟩) l.length cap::vs).toArray w λe w'=>e = .returned (.tuple #[])/\∃ n os,w'=sortWorldK cv k w g 0 n l'.toArray os) :
  aU P f (.ar 0::aC) [(0,.aQ T k (l.map row))] 1 (.d (.bE [])) 1 [(0,.aQ T k (l'.map row))] []:=by
 refine⟨H,λX w0 β w vs hβ hm hs=>?_⟩
 simp only[zi] at hs
 obtain⟨v,vs',rfl,hv,hs⟩:=hs
 simp only[Sm] at hv;subst hv
 obtain⟨_,H0,xs,hx,hc,H1⟩:=hm.dm (id:=0) (o:=.aQ T k (l.map row)) rfl
 simp only[om] at hx
 have B:=h.i_ l xs hc
 subst B
 rcases hx.1.2 with⟨_,h0⟩ | ⟨g,cap,cur,hg,_,hh,L,M,C,H2⟩
 .exact absurd (nZ h0) A
 have V:=(hx.2 g (by rw[hg];rfl)).1
 have I:=(oD.1 hh).1
 have F:l.length*k<=cur.size:=by rw[C];exact oY k L
 have hH:HoldsK cv k w g 0 l.toArray:=by
  intro j hj;rw[size_flatK] at hj;have Y:j<l.length*k:=by simpa using hj
  rw[pG];refine⟨?_,by simp[World.frozen?,hh]⟩
  have N:=h.get l j Y;rw[KY hx.1 hg N,get_flatK cv k _ j (by simpa using Y)]
  simp
 rw[hg]
 refine(G w _ β vs' hs hm.seen g cap I (.inr ⟨0,_,nL,by rw[hg];rfl⟩) hH).mono λe w' he=>?_
 obtain⟨rfl,n,os,rfl⟩:=he
 have hF:(flatK cv k l'.toArray).size<=cur.size:=by simp[J];exact F
 have K:=zbk (flatK cv k l'.toArray) cur hF
 rw[h.flatK l'] at K
 have Z:(putRowK cv k (Sort.ahead w n) g 0 l'.toArray).heap[g]?=some (.cells (putCells id 0 (flatK cv k l'.toArray) cur) T (0,0)):=zh0 (w:=Sort.ahead w n) _ hh
 have O:xY (putRowK cv k (Sort.ahead w n) g 0 l'.toArray) g:=by
  refine xY.of Z λu hu=>?_
  rw[K] at hu;rcases nM.1 hu with hu | hu
  .exact h.zr7 l' u hu
  .exact(hx.2 g (by rw[hg];rfl)).2 cur T (0,0) hh u (oH hu)
 have S:ax X w0 {(yW [(0,.aQ T k (l.map row))] 1 1 []) with own:=zT 0 (.aQ T k (l'.map row)) [(0,.aQ T k (l.map row))]} β vv (putRowK cv k (Sort.ahead w n) g 0 l'.toArray):=by
  refine hm.db (b:=g) rfl (by rw[hg];rfl) V (λc hc=>zbl (w:=Sort.ahead w n) _ hc) (by simp[putRowK,putRow,mapBlock,Sort.ahead]) rfl rfl rfl (λ_=>sV _ _) trivial ?_
  refine⟨(l'.map cv).flatten,⟨⟨by rw[h.KO];simp,.inr ⟨g,cap,_,?_,nU _,Z,by simp;omega,M,?_,?_⟩⟩,?_⟩,h.jx l',?_⟩
  .rw[hg];simp[J]
  .rw[<-oM,K];simp[h.KO,J];omega
  .rw[K];simp only[om]
   rw[List.take_left' (by rw[h.KO])]
  .intro b hb
   rw[hg] at hb;simp[bP] at hb;subst hb;exact⟨V,O⟩
  .intro r hr
   obtain⟨x,_,rfl⟩:=nS.1 hr;exact h.mH x
 have Q:Below (putRowK cv k (Sort.ahead w n) g 0 l'.toArray).heap.size (putRowK cv k (Sort.ahead w n) g 0 l'.toArray) (sortWorldK cv k w g 0 n l'.toArray os):=by
  refine⟨⟨rfl,rfl,rfl,by simp[sortWorldK,grow],λc hc=>?_⟩,λ_=>nJ _⟩
  simp only[sortWorldK,grow];rw[ul hc]
 have W:=S.put Q (dst:=none) (s:=.junk) (v:=.bool true) (by simp) (by simp[ah.lo]) (by simp[Sm])
 exact⟨β,_,rfl,W,by simp[ah.lo],by simp[Sm,R,zI]⟩
theorem Below.nA(G:Dr.dr=true){w w':World}(h:Below w.heap.size w w'):∃ q os,w'=grow (w.drewN q) os:=by
 refine⟨w'.drawn-w.drawn,(w'.heap.toList.drop w.heap.size).toArray,?_⟩
 have F:w'.heap=w.heap++(w'.heap.toList.drop w.heap.size).toArray:=by
  apply tb
  have E:w'.heap.toList.take w.heap.size=w.heap.toList:=by
   apply ro
   intro t;by_cases K:t<w.heap.size
   .rw[og,gt K,ru,ru,h.block t K]
   .rw[og,ge K,ra (by simp;omega)]
  simp only[sf];rw[<-E,oT]
 have J:=h.drawn G
 obtain⟨L,t1,d1,o1,u1⟩:=w
 obtain⟨M,t2,d2,o2,u2⟩:=w'
 have e1:=h.os
 have e2:=h.tape
 have e3:=h.output
 simp only at e1 e2 e3 F J
 subst e1;subst e2;subst e3
 have H:∀ (q:Nat) (W:World),W.drewN q = {W with drawn:=W.drawn+q}:=by
  intro q W;rfl
 rw[H]
 simp only[grow]
 rw[<-F,show d1+(d2-d1)=d2 by omega]
theorem zlx{w:World}{E:Nat->Prop}{g m off:Nat}{dk:Array α}{os:Array Obj}(hs:fp w E)(F:E g):fp (sortWorldK cv k w g off m dk os) E:=by
 have G:(putRowK cv k (Sort.ahead w m) g off dk).heap.size=w.heap.size:=by simp[putRowK,putRow,mapBlock,Sort.ahead]
 refine⟨λb K=>?_,hs.2.over λb K J=>⟨J,?_⟩⟩
 .have:=hs.1 b K
  simp only[sortWorldK,grow,Cw];omega
 .simp only[sortWorldK,grow]
  rw[ul (by omega)]
  have H:b≠g:=λe=>J (e▸F)
  unfold putRowK putRow mapBlock;simp[rR,se H,Sort.ahead]
theorem Rh(G:Dr.dr=true){g:Nat}{cf:α->α->Int}(h:cK cv row k)(F:∀ x y,aq P g [.agg (row x),.agg (row y)] (.int .i64 (cf x y))){bP off size:Nat}{w:World}{E:Nat->Prop}(hs:fp w E)(K:E bP):
  CmpLays P g #[] cv k cf bP off size w:=by
 intro m os dk H x y
 have J:∀ W,zI W E [.agg (row x),.agg (row y)] [.agg (cv x).toArray,.agg (cv y).toArray]:=by
  intro W;simp only[zI,R];exact⟨_,_,rfl,⟨_,rfl,h.read _ _ _⟩,_,_,rfl,⟨_,rfl,h.read _ _ _⟩,rfl⟩
 have:=(F x y).2 (sortWorldK cv k w bP off m dk os) E _ (zlx hs K) (J _)
 simp only[Array.append_empty]
 refine Calls.mono this λe w' ⟨v,L,K,M⟩=>?_
 simp only[R] at M
 subst M
 exact⟨L,Below.nA G K⟩
end
end Go.V
namespace Go.V
variable [Dr] [Ov]
open Go.RowKit Go.Sort Go.Proofs
section
variable {α:Type} [Inhabited α] {cv:α->List Value} {row:α->List D} {k:Nat} {P:Program} {T:Nat}
end
end Go.V

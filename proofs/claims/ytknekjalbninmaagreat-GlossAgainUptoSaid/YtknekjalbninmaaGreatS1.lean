/- A program logic of my own over the kit: part S1. It needs no conditions. -/
import Derived.Test.YtknekjalbninmaaGreatW1
import Derived.Shelf.SlSortCmp.InsertionK
set_option linter.unusedVariables false
set_option linter.unusedSimpArgs false
set_option linter.unusedSectionVars false
namespace Go.V
variable [Dr] [Ov]
open Go.RowKit Go.Sort Go.Proofs
structure RowEnc{α:Type}(enc:α->List Value)(row:α->List D)(k:Nat):Prop where
 pos:0<k
 len:∀ x,(enc x).length=k
 one:∀ x,∀ v∈enc x,v.oneCell'=true
 rlen:∀ x,(row x).length=k
 read:∀ w E x,zi w E (row x) (enc x)
 uniq:∀ w E x vs,zi w E (row x) vs->vs=enc x
theorem zi.split{w:World}{E:Nat->Prop}:∀ {a b:List D} {vs:List Value},zi w E (a++b) vs->∃ v1 v2,vs=v1++v2/\zi w E a v1/\zi w E b v2
 | [],b,vs,h=>⟨[],vs,rfl,by simp[zi],h⟩
 |x::a,b,vs,h=>by
  simp only[List.cons_append,zi] at h;obtain⟨v,vs',rfl,H,G,F⟩:=h;obtain⟨v1,v2,rfl,q1,q2⟩:=zi.split F;exact⟨v::v1,v2,rfl,by simp only[zi];exact⟨v,v1,rfl,H,G,q1⟩,q2⟩
theorem zi.join{w:World}{E:Nat->Prop}:∀ {a b:List D} {v1 v2:List Value},zi w E a v1->zi w E b v2->zi w E (a++b) (v1++v2)
 | [],b,v1,v2,h,H=>by simp only[zi] at h;subst h;exact H
 |x::a,b,v1,v2,h,H=>by
  simp only[zi] at h;obtain⟨v,vs',rfl,G,F,K⟩:=h;simp only[List.cons_append,zi];exact⟨v,_,rfl,G,F,zi.join K H⟩
section
variable {α:Type} {enc:α->List Value} {row:α->List D} {k:Nat}
theorem RowEnc.flat(h:RowEnc enc row k){w:World}{E:Nat->Prop}:∀ (l:List α) (vs:List Value),zi w E (l.map row).flatten vs->vs=(l.map enc).flatten
 | [],vs,H=>by simpa[zi] using H
 |x::l,vs,H=>by
  simp only[List.map_cons,List.flatten_cons] at H ⊢;obtain⟨v1,v2,rfl,G,F⟩:=H.split;rw[h.uniq w E x v1 G,h.flat l v2 F]
theorem RowEnc.back(h:RowEnc enc row k){w:World}{E:Nat->Prop}:∀ (l:List α),zi w E (l.map row).flatten (l.map enc).flatten
 | []=>by simp[zi]
 |x::l=>by
  simp only[List.map_cons,List.flatten_cons];exact(h.read w E x).join (h.back l)
theorem RowEnc.Wu(h:RowEnc enc row k)(l:List α):(l.map enc).flatten.length=l.length*k:=by
 induction l with
 |nil=>simp
 |cons x l ih=>simp only[List.map_cons,List.flatten_cons,List.length_append,ih,h.len,List.length_cons,Nat.add_mul];omega
theorem RowEnc.zmi(h:RowEnc enc row k)(l:List α):∀ u∈(l.map enc).flatten,u.oneCell'=true:=by
 intro u H
 obtain⟨r,G,H⟩:=List.mem_flatten.1 H
 obtain⟨x,_,rfl⟩:=List.mem_map.1 G
 exact h.one x u H
theorem RowEnc.get(h:RowEnc enc row k)[Inhabited α]:∀ (l:List α) (t:Nat),t<l.length*k->(l.map enc).flatten[t]?=some ((enc l[t/k]!)[t%k]!)
 | [],t,ht=>by simp at ht
 |x::l,t,ht=>by
  simp only[List.map_cons,List.flatten_cons];rcases Nat.lt_or_ge t k with H | hge
  .rw[List.getElem?_append_left (by rw[h.len];exact H),Nat.div_eq_of_lt H,Nat.mod_eq_of_lt H]
   have:t<(enc x).length:=by rw[h.len];exact H
   simp[this]
  .obtain⟨s,rfl⟩:∃ s,t=k+s:=⟨t-k,by omega⟩
   rw[List.getElem?_append_right (by rw[h.len];omega),h.len,Nat.add_sub_cancel_left,Nat.add_div_left s h.pos,Nat.add_mod_left]
   rw[h.get l s (by simp only[List.length_cons,Nat.add_mul] at ht;omega)]
   simp
theorem RowEnc.flatK(h:RowEnc enc row k)[Inhabited α](l:List α):(flatK enc k l.toArray).toList=(l.map enc).flatten:=by
 apply List.ext_getElem?
 intro t
 by_cases H:t<l.length*k
 .rw[h.get l t H]
  have hs:t<(Sort.flatK enc k l.toArray).size:=by simpa using H
  have G:=get_flatK enc k l.toArray t (by simpa using H)
  rw[getElem!_pos _ t hs] at G;rw[Array.getElem?_toList,Array.getElem?_eq_getElem hs,G];simp
 .rw[List.getElem?_eq_none (by simp;omega),List.getElem?_eq_none (by rw[h.Wu];omega)]
end
section
variable {P:Program} {α:Type} [Inhabited α] {enc:α->List Value} {row:α->List D} {k T:Nat}
theorem zbd(F cur:Array Value)(h:F.size<=cur.size):(putCells id 0 F cur).toList=F.toList++cur.toList.drop F.size:=by
 apply List.ext_getElem?
 intro t
 unfold putCells
 rw[Array.getElem?_toList,Array.getElem?_mapIdx]
 by_cases H:t<F.size
 .rw[List.getElem?_append_left (by simpa using H),Array.getElem?_eq_getElem (by omega)]
  simp[H]
 .rw[List.getElem?_append_right (by simp;omega),List.getElem?_drop,Array.length_toList]
  rw[show F.size+(t-F.size)=t by omega,Array.getElem?_toList]
  simp[H]
theorem zfs{w:World}{g:Nat}{cur:Array Value}{fz:Nat×Nat}(d:Array α)(H:w.heap[g]?=some (.cells cur T fz)):
  (putRowK enc k w g 0 d).heap[g]?=some (.cells (putCells id 0 (flatK enc k d) cur) T fz):=by
 unfold putRowK putRow mapBlock
 simp[Array.getElem?_modify,H,onCells]
theorem zbe{w:World}{g c:Nat}(d:Array α)(H:c≠g):(putRowK enc k w g 0 d).heap[c]?=w.heap[c]?:=by
 unfold putRowK putRow mapBlock
 simp[Array.getElem?_modify,Ne.symm H]
theorem Fp(h:RowEnc enc row k){f:Nat}(H:callable P f=true){rest:List Sym}{l l':List α}(A:l≠[])(J:l'.length=l.length)
  (G:∀ w E β vs,zg w E β rest vs->Seen w E->∀ (g cap:Nat),g<w.heap.size->E g->HoldsK enc k w g 0 l.toArray ->
   Calls P f (Value.slice (some ⟨g,0,none⟩) l.length cap::vs).toArray w λe w'=>e = .returned (.tuple #[])/\∃ n os,w'=sortWorldK enc k w g 0 n l'.toArray os) :
  zI P f (.ar 0::rest) [(0,.arr T k (l.map row))] 1 (.d (.tup [])) 1 [(0,.arr T k (l'.map row))] []:=by
 refine⟨H,λX w0 β w vs hβ hm hs=>?_⟩
 simp only[zg] at hs
 obtain⟨v,vs',rfl,hv,hs⟩:=hs
 simp only[Sm] at hv;subst hv
 obtain⟨_,H0,xs,hx,hc,H1⟩:=hm.obj (id:=0) (o:=.arr T k (l.map row)) rfl
 simp only[List.length_map] at hx
 have B:=h.flat l xs hc
 subst B
 rcases hx.1.2 with⟨_,h0⟩ | ⟨g,cap,cur,hg,_,hh,L,M,C,H2⟩
 .exact absurd (List.eq_nil_of_length_eq_zero h0) A
 have V:=(hx.2 g (by rw[hg];rfl)).1
 have I:=(Array.getElem?_eq_some_iff.1 hh).1
 have F:l.length*k<=cur.size:=by rw[C];exact Nat.mul_le_mul_right k L
 have hH:HoldsK enc k w g 0 l.toArray:=by
  intro j hj;rw[size_flatK] at hj;have Y:j<l.length*k:=by simpa using hj
  rw[Nat.zero_add];refine⟨?_,by simp[World.frozen?,hh]⟩
  have N:=h.get l j Y;rw[WE hx.1 hg N,get_flatK enc k _ j (by simpa using Y)]
  simp
 rw[hg]
 refine(G w _ β vs' hs hm.seen g cap I (.inr ⟨0,_,List.mem_cons_self,by rw[hg];rfl⟩) hH).mono λe w' he=>?_
 obtain⟨rfl,n,os,rfl⟩:=he
 have hF:(flatK enc k l'.toArray).size<=cur.size:=by simp[J];exact F
 have K:=zbd (flatK enc k l'.toArray) cur hF
 rw[h.flatK l'] at K
 have Z:(putRowK enc k (Sort.ahead w n) g 0 l'.toArray).heap[g]?=some (.cells (putCells id 0 (flatK enc k l'.toArray) cur) T (0,0)):=zfs (w:=Sort.ahead w n) _ hh
 have O:xH (putRowK enc k (Sort.ahead w n) g 0 l'.toArray) g:=by
  refine xH.of Z λu hu=>?_
  rw[K] at hu;rcases List.mem_append.1 hu with hu | hu
  .exact h.zmi l' u hu
  .exact(hx.2 g (by rw[hg];rfl)).2 cur T (0,0) hh u (List.mem_of_mem_drop hu)
 have S:Mods X w0 {(yP [(0,.arr T k (l.map row))] 1 1 []) with own:=zT 0 (.arr T k (l'.map row)) [(0,.arr T k (l.map row))]} β qU (putRowK enc k (Sort.ahead w n) g 0 l'.toArray):=by
  refine hm.update (b:=g) rfl (by rw[hg];rfl) V (λc hc=>zbe (w:=Sort.ahead w n) _ hc) (by simp[putRowK,putRow,mapBlock,Sort.ahead]) rfl rfl rfl (λ_=>Nat.le_add_right _ _) trivial ?_
  refine⟨(l'.map enc).flatten,⟨⟨by rw[h.Wu];simp,.inr ⟨g,cap,_,?_,Nat.zero_le _,Z,by simp;omega,M,?_,?_⟩⟩,?_⟩,h.back l',?_⟩
  .rw[hg];simp[J]
  .rw[<-Array.length_toList,K];simp[h.Wu,J];omega
  .rw[K];simp only[List.length_map]
   rw[List.take_left' (by rw[h.Wu])]
  .intro b hb
   rw[hg] at hb;simp[blk] at hb;subst hb;exact⟨V,O⟩
  .intro r hr
   obtain⟨x,_,rfl⟩:=List.mem_map.1 hr;exact h.rlen x
 have Q:Below (putRowK enc k (Sort.ahead w n) g 0 l'.toArray).heap.size (putRowK enc k (Sort.ahead w n) g 0 l'.toArray) (sortWorldK enc k w g 0 n l'.toArray os):=by
  refine⟨⟨rfl,rfl,rfl,by simp[sortWorldK,grow],λc hc=>?_⟩,λ_=>Nat.le_refl _⟩
  simp only[sortWorldK,grow];rw[Array.getElem?_append_left hc]
 have W:=S.put Q (dst:=none) (s:=.junk) (v:=.bool true) (by simp) (by simp[Sym.lo]) (by simp[Sm])
 exact⟨β,_,rfl,W,by simp[Sym.lo],by simp[Sm,R,zF]⟩
theorem Below.grown(G:Dr.dr=true){w w':World}(h:Below w.heap.size w w'):∃ q os,w'=grow (w.drewN q) os:=by
 refine⟨w'.drawn-w.drawn,(w'.heap.toList.drop w.heap.size).toArray,?_⟩
 have F:w'.heap=w.heap++(w'.heap.toList.drop w.heap.size).toArray:=by
  apply Array.ext'
  have E:w'.heap.toList.take w.heap.size=w.heap.toList:=by
   apply List.ext_getElem?
   intro t;by_cases K:t<w.heap.size
   .rw[List.getElem?_take,if_pos K,Array.getElem?_toList,Array.getElem?_toList,h.block t K]
   .rw[List.getElem?_take,if_neg K,List.getElem?_eq_none (by simp;omega)]
  simp only[Array.toList_append];rw[<-E,List.take_append_drop]
 have J:=h.drawn G
 obtain⟨L,t1,d1,o1,u1⟩:=w
 obtain⟨M,t2,d2,o2,u2⟩:=w'
 have e1:=h.os
 have e2:=h.tape
 have e3:=h.output
 simp only at e1 e2 e3 F J
 subst e1;subst e2;subst e3
 have H:∀ (q:Nat) (W:World),W.drewN q = {W with drawn:=W.drawn+q}:=by
  intro q W;rfl
 rw[H]
 simp only[grow]
 rw[<-F,show d1+(d2-d1)=d2 by omega]
theorem zif{w:World}{E:Nat->Prop}{g m off:Nat}{dk:Array α}{os:Array Obj}(hs:Seen w E)(F:E g):Seen (sortWorldK enc k w g off m dk os) E:=by
 have G:(putRowK enc k (Sort.ahead w m) g off dk).heap.size=w.heap.size:=by simp[putRowK,putRow,mapBlock,Sort.ahead]
 refine⟨λb K=>?_,hs.2.over λb K J=>⟨J,?_⟩⟩
 .have:=hs.1 b K
  simp only[sortWorldK,grow,Array.size_append];omega
 .simp only[sortWorldK,grow]
  rw[Array.getElem?_append_left (by omega)]
  have H:b≠g:=λe=>J (e▸F)
  unfold putRowK putRow mapBlock;simp[Array.getElem?_modify,Ne.symm H,Sort.ahead]
theorem Nj(G:Dr.dr=true){g:Nat}{cf:α->α->Int}(h:RowEnc enc row k)(F:∀ x y,zl P g [.agg (row x),.agg (row y)] (.int .i64 (cf x y))){blk off size:Nat}{w:World}{E:Nat->Prop}(hs:Seen w E)(K:E blk):
  CmpLays P g #[] enc k cf blk off size w:=by
 intro m os dk H x y
 have J:∀ W,zF W E [.agg (row x),.agg (row y)] [.agg (enc x).toArray,.agg (enc y).toArray]:=by
  intro W;simp only[zF,R];exact⟨_,_,rfl,⟨_,rfl,h.read _ _ _⟩,_,_,rfl,⟨_,rfl,h.read _ _ _⟩,rfl⟩
 have:=(F x y).2 (sortWorldK enc k w blk off m dk os) E _ (zif hs K) (J _)
 simp only[Array.append_empty]
 refine Calls.mono this λe w' ⟨v,L,K,M⟩=>?_
 simp only[R] at M
 subst M
 exact⟨L,Below.grown G K⟩
end
end Go.V
namespace Go.V
variable [Dr] [Ov]
open Go.RowKit Go.Sort Go.Proofs
section
variable {α:Type} [Inhabited α] {enc:α->List Value} {row:α->List D} {k:Nat} {P:Program} {T:Nat}
end
end Go.V

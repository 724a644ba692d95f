/- Contracts and plain laws of this seat: part MD. It needs no conditions. -/
import Derived.Test.YtknekjalbninmaaGreatMC
import Derived.Test.YtknekjalbninmaaGreatB1
import Derived.Test.YtknekjalbninmaaGreatU0
set_option maxHeartbeats 32000000
set_option linter.unusedVariables false
set_option linter.unusedSimpArgs false
set_option linter.unusedSectionVars false
set_option maxRecDepth 100000
namespace Go.V
open Go Go.Proofs Go.RowKit Go.WideShapes
mutual
def Cap(M:Nat):D->Prop
 |.str b=>b.size<=M
 |.sl l=>l.length<=M/\CapR M l
 |_=>True
def CapR(M:Nat):List (List D)->Prop
 | []=>True
 |r::rs=>Caps M r/\CapR M rs
def Caps(M:Nat):List D->Prop
 | []=>True
 |d::ds=>Cap M d/\Caps M ds
end
def CapT(M:Nat):D->Prop
 |.agg l=>Caps M l
 |d=>Cap M d
theorem yl6{M:Nat}{d:D}(h:Cap M d):(∀ l,d≠.agg l)->CapT M d:=by
 intro H
 cases d <;> first | exact h | exact absurd rfl (H _)
theorem Caps.app{M:Nat}:∀ {a b:List D},Caps M a->Caps M b->Caps M (a++b)
 | [],b,_,h=>h
 |d::a,b,h,H=>by
  simp only[Caps,List.cons_append] at h ⊢;exact⟨h.1,Caps.app h.2 H⟩
theorem yex{M:Nat}:∀ {l:List (List D)},(∀ i (h:i<l.length),Caps M l[i])->CapR M l
 | [],_=>by simp[CapR]
 |r::rs,h=>by
  simp only[CapR];exact⟨h 0 (by simp),yex λi hi=>h (i+1) (by simp;omega)⟩
structure BulkFn{H:Type}(bulk:DataW H->Nat):Prop where
 str:∀ bytes,bytes.length<=bulk (.lit (.string bytes))
 sl:∀ es rest,es.length<=bulk (.slice es rest)
 el:∀ es rest e,e∈es->bulk e<=bulk (.slice es rest)
 part:∀ ps p,p∈ps->bulk p<=bulk (.agg ps)
section
variable {H:Type} {enc:TypeId×Value->H} {P:Program} {w:World} {base:Nat} {spare:Nat->Bool} {held:Bool} {bulk:DataW H->Nat}
theorem zv8{g:Nat->Option (List Sh)}{m:Nat}{cs:List Value}{M:Nat}
  (Q:∀ (f:Field) (l:List Sh),g f.type=some l->∀ x,DataW.trod enc P w base spare held m f.type ((cs.drop f.offset).take (P.cellsOf f.type))=some x->bulk x.1<=M->∃ ds,zb2 ds l/\Caps M ds/\zah w Ez ds ((cs.drop f.offset).take (P.cellsOf f.type))) :
  ∀ (fs:List Field) (off:Nat) (shs:List Sh),zsc g P fs off=some shs->off+shs.length=cs.length ->
   (∀ f∈fs,∃ x,DataW.trod enc P w base spare held m f.type ((cs.drop f.offset).take (P.cellsOf f.type))=some x/\bulk x.1<=M)->∃ ds,zb2 ds shs/\Caps M ds/\zah w Ez ds (cs.drop off)
 | [],off,shs,h,T,_=>by
  simp only[zsc,Option.some.injEq] at h;subst h;simp at T
  exact⟨[],by simp[zb2],by simp[Caps],by simp[zah,List.drop_eq_nil_of_le,T]⟩
 |f::r,off,shs,h,T,V=>by
  simp only[zsc] at h;split at h
  .rename_i ho
   split at h
   .rename_i l E
    split at h
    .rename_i hlen
     split at h
     .rename_i m' X
      cases h;obtain⟨x,Y,K⟩:=V f (by simp)
      obtain⟨ds,J,L,O⟩:=Q f l E x Y K;obtain⟨ds',H,G,F⟩:=zv8 Q r (off+l.length) m' X (by simp at T;omega) λf' hf'=>V f' (by simp[hf'])
      refine⟨ds++ds',J.app H,L.app G,?_⟩
      have e:cs.drop off=(cs.drop off).take (P.cellsOf f.type)++cs.drop (off+l.length):=by
       rw[hlen,<-List.drop_drop,List.take_append_drop]
      rw[e];subst ho;exact O.app F
     .cases h
    .cases h
   .cases h
  .cases h
theorem zyc(S:BulkFn bulk){M:Nat}:∀ (fuel n t:Nat) (shs:List Sh) (cs:List Value) (x:DataW H×List MemPlace),shapes P n t=some shs->DataW.trod enc P w base spare held fuel t cs=some x->bulk x.1<=M ->
  ∃ ds,zb2 ds shs/\Caps M ds/\zah w Ez ds cs
 |0,_,_,_,_,_,_,h,_=>by simp[DataW.trod] at h
 |fuel+1,n,t,shs,cs,x,hs,h,W=>by
  cases n with
  |zero=>simp[shapes] at hs
  |succ n=>
  simp only[shapes] at hs;split at hs
  .rename_i k ht
   cases hs;obtain⟨m,rfl,_,hw⟩:=DataW.trod_int ht h;exact⟨[.int k m],by simp[zb2,FitD,hw],by simp[Caps,Cap],by simp only[zah,R];exact⟨_,_,rfl,rfl,rfl,rfl⟩⟩
  .rename_i ht
   cases hs;obtain⟨b,rfl,_⟩:=DataW.trod_bool ht h;exact⟨[.bool b],by simp[zb2,FitD],by simp[Caps,Cap],by simp only[zah,R];exact⟨_,_,rfl,rfl,rfl,rfl⟩⟩
  .rename_i ht
   cases hs;obtain⟨s,rfl,rfl,hw⟩:=DataW.trod_string ht h;have Q:=S.str s.data.toList;have e0:s.data.toList.length=s.size:=by rw[Array.length_toList];rfl
   exact⟨[.str s],by simp[zb2,FitD,hw],by simp only[Caps,Cap,and_true];simp only at W;omega,by simp only[zah,R];exact⟨_,_,rfl,rfl,rfl,rfl⟩⟩
  .rename_i e ht
   split at hs
   .rename_i l hl
    split at hs
    .rename_i hlen
     cases hs;rcases DataW.trod_slice ht h with⟨rfl,_⟩ | ⟨a,len,cap,elems,rest,m,hm,rfl,rfl,_,C,Y,I,K,_⟩
     .exact⟨[.sl []],by simp[zb2,FitD,zsb],by simp[Caps,Cap,CapR],by simp only[zah,R];exact⟨_,_,rfl,rfl,⟨none,0,rfl,by simp,by simp,λ_=>rfl,λh=>absurd rfl h⟩,rfl⟩⟩
     .cases hm
      have cellf:∀ i,i<len->∃ cs' x',w.cells? base (a.add (i*P.cellsOf e)) (P.cellsOf e)=some cs'/\DataW.trod enc P w base spare held fuel e cs'=some x'/\bulk x'.1<=M:=by
       intro i hi;have h1:=K i hi;have h2:elems[i]?=some (elems[i]'(by omega)):=List.getElem?_eq_getElem (by omega)
       rw[h2,Option.bind_eq_some_iff] at h1;obtain⟨cs',J,L⟩:=h1;exact⟨cs',_,J,L,Nat.le_trans (S.el _ _ _ (List.mem_map.mpr ⟨_,List.getElem_mem _,rfl⟩)) W⟩
      have E:0<len->a.spot=none/\a.block<w.heap.size:=by
       intro hp;obtain⟨cs',_,J,_,_⟩:=cellf 0 hp;obtain⟨_,T,G⟩:=World.cells?_some J;have c0:=G 0 (by omega)
       have:cs'[0]?=some (cs'[0]'(by omega)):=List.getElem?_eq_getElem (by omega)
       rw[this] at c0;exact⟨by simpa[Addr.add] using World.cell?_spot c0,by simpa[Addr.add] using cell_lt c0⟩
      have each:∀ i,i<len->∃ ds,(zb2 ds l/\Caps M ds)/\Rrow w Ez a.block ds (a.off+i*P.cellsOf e):=by
       intro i hi;obtain⟨q3,q4⟩:=E (by omega)
       obtain⟨cs',x',J,L,O⟩:=cellf i hi;obtain⟨ds,hf,Z,hr⟩:=zyc S fuel n e l cs' _ hl L O;obtain⟨_,T,G⟩:=World.cells?_some J;refine⟨ds,⟨hf,Z⟩,zm4 hr λj hj=>?_⟩
       have:=G j (by rw[hr.len] at hj;omega)
       rw[<-this];obtain⟨ab,ao,asp⟩:=a;subst q3;rw[add_plain,add_plain]
      obtain⟨rows,V,F⟩:=ycy len each;have A:=S.sl (elems.map (·.1)) (rest.map (·.1));rw[List.length_map] at A;refine⟨[.sl rows],by simp[zb2,FitD,V,z7g λi hi=>(F i hi).1.1];omega,by simp only[Caps,Cap,and_true];exact⟨by simp only at W;omega,yex λi hi=>(F i hi).1.2⟩,?_⟩
      simp only[zah,R];refine⟨_,_,rfl,rfl,⟨some a,cap,by rw[V],by omega,Y,λh=>by simp at h,λX=>?_⟩,rfl⟩
      have h0:0<rows.length:=List.length_pos_iff.2 X
      obtain⟨q1,q2⟩:=F 0 h0;obtain⟨q3,q4⟩:=E (by omega)
      have Q:rowLen rows=P.cellsOf e:=by
       cases hr:rows with
       |nil=>exact absurd hr X
       |cons r rs => 
        subst hr;simp only[rowLen];have:=q1.1.len
        simp at this
        omega
      refine⟨a.block,a.off,?_,λh=>h,q4,?_⟩
      .obtain⟨ab,ao,asp⟩:=a
       subst q3;rfl
      .rw[Q]
       exact z7f λi hi=>⟨by rw[(F i hi).1.1.len];exact hlen.1,(F i hi).2⟩
    .cases hs
   .cases hs
  .rename_i fs ht
   split at hs
   .rename_i l hl
    split at hs
    .rename_i hlen
     cases hs;obtain⟨xs,m,hm,B,T,N,hx⟩:=DataW.trod_struct ht h;cases hm;have:=zv8 (bulk:=bulk) (M:=M) (g:=shapes P n) (m:=fuel) (cs:=cs) (P:=P) (w:=w) (enc:=enc) (base:=base) (spare:=spare) (held:=held) (λf l' hf x hx O=>zyc S fuel n f.type l' _ x hf hx O) fs.toList 0 shs hl (by omega) ?_
     .simpa using this
     .intro f hf
      obtain⟨i,hi,rfl⟩:=List.getElem_of_mem hf;have h1:=hx i fs[i] (by simp at hi;simp[hi])
      rw[List.getElem?_eq_getElem (by simp at hi;omega)] at h1
      refine⟨_,by simpa using h1,Nat.le_trans (S.part _ _ (List.mem_map.mpr ⟨_,List.getElem_mem _,rfl⟩)) (by rw[B] at W;exact W)⟩
    .cases hs
   .cases hs
  .cases hs
theorem yl7(K:BulkFn bulk){M:Nat}{n t:Nat}{v:Value}{d:DataW H}{ps:List MemPlace}{r:Reach}{b0:Nat}(hs:(shapes P n t).isSome=true)(J:Value.okWide P w r b0 t v)(h:DataW.Trod enc P w base spare held t v d ps)(L:bulk d<=M):
  ∃ x,FitT P n t x/\CapT M x/\R w Ez x v:=by
 obtain⟨fuel,O⟩:=h
 cases Q:shapes P n t with
 |none=>simp[Q] at hs
 |some shs=>
 obtain⟨ds,T,V,h2⟩:=zyc K fuel n t shs _ _ Q O L
 unfold FitT
 cases n with
 |zero=>simp[shapes] at Q
 |succ n=>
 have G:=Q
 simp only[shapes] at Q
 have scalar:∀ s,shs=[s]->v.cells = #[v]->∃ x,(FitD x s/\CapT M x)/\R w Ez x v:=by
  intro s e E;subst e;rw[E] at h2;cases ds with
  |nil=>simp[zb2] at T
  |cons d ds=>
   simp only[zah] at h2;obtain⟨u,us,e,_,X,_⟩:=h2;simp only[zb2] at T;obtain⟨s',r',e',F,_⟩:=T;cases e'
   simp at e
   obtain⟨rfl,rfl⟩:=e;simp only[Caps] at V;exact⟨d,⟨F,yl6 V.1 (by intro l e;subst e;simp[FitD] at F)⟩,X⟩
 split at Q
 .rename_i k Y
  cases Q;obtain⟨m,rfl⟩:=okWide_int Y J;obtain⟨x,Z⟩:=scalar _ rfl rfl;exact⟨x,by rw[Y];exact⟨_,G,Z.1.1⟩,Z.1.2,Z.2⟩
 .rename_i Y
  cases Q;obtain⟨m,rfl⟩:=okWide_bool Y J;obtain⟨x,Z⟩:=scalar _ rfl rfl;exact⟨x,by rw[Y];exact⟨_,G,Z.1.1⟩,Z.1.2,Z.2⟩
 .rename_i Y
  cases Q;obtain⟨m,rfl⟩:=okWide_string Y J;obtain⟨x,Z⟩:=scalar _ rfl rfl;exact⟨x,by rw[Y];exact⟨_,G,Z.1.1⟩,Z.1.2,Z.2⟩
 .rename_i e Y
  split at Q
  .split at Q
   .cases Q
    obtain⟨a,len,cap,rfl⟩:=okWide_slice Y J;obtain⟨x,Z⟩:=scalar _ rfl rfl;exact⟨x,by rw[Y];exact⟨_,G,Z.1.1⟩,Z.1.2,Z.2⟩
   .cases Q
  .cases Q
 .rename_i fs Y
  obtain⟨cs,rfl,_⟩:=okWide_struct Y J;refine⟨.agg ds,by rw[Y];exact⟨ds,shs,rfl,G,T⟩,by simp only[CapT];exact V,?_⟩
  simp only[R];exact⟨cs.toList,by simp,h2⟩
 .cases Q
theorem z8t(O:BulkFn bulk){M:Nat}{n:Nat}{r:Reach}{b0:Nat}:∀ {ts:List Nat} {vs:List Value} {ds:List (DataW H)} {ps:List MemPlace},(∀ t∈ts,(shapes P n t).isSome=true) ->
  (∀ (j:Nat) (t:Nat) (v:Value),ts[j]?=some t->vs[j]?=some v->Value.okWide P w r b0 t v)->DataW.TrodAll enc P w base spare held ts vs ds ps->(∀ d∈ds,bulk d<=M)->∃ xs,zov P n ts xs/\(∀ x∈xs,CapT M x)/\za9 w Ez xs vs
 | [],vs,ds,ps,_,_,h,_=>by
  cases vs with
  |nil=>exact⟨[],by simp[zov],by simp,by simp[za9]⟩
  |cons v vs=>cases ds <;> simp[DataW.TrodAll] at h
 |t::ts,vs,ds,ps,hs,Q,h,T=>by
  cases vs with
  |nil=>cases ds <;> simp[DataW.TrodAll] at h
  |cons v vs=>
   cases ds with
   |nil=>simp[DataW.TrodAll] at h
   |cons d ds=>
    simp only[DataW.TrodAll] at h;obtain⟨p,q,V,h2,_⟩:=h;obtain⟨x,G,F,E⟩:=yl7 O (hs t (by simp)) (Q 0 t v rfl rfl) V (T d (by simp))
    obtain⟨xs,K,J,L⟩:=z8t O (ts:=ts) (λt X=>hs t (by simp[X])) (λj t v h Y=>Q (j+1) t v (by simpa using h) (by simpa using Y)) h2 (λd Z=>T d (by simp[Z]))
    exact⟨x::xs,by simp only[zov];exact⟨x,xs,rfl,G,K⟩,by intro z A;rcases List.mem_cons.mp A with e | e;rw[e];exact F;exact J z e,by simp only[za9];exact⟨v,vs,rfl,E,L⟩⟩
end
end Go.V
namespace Go.V
open Go Go.Proofs Go.Lib
def zal(s:ByteArray)(k:Nat):Nat:=(s.data.toList.getD k 0).toNat
theorem zb1(s:ByteArray)(k:Nat):byteAt s (k:Int)=(zal s k:Int):=by simp[byteAt,zal]
theorem wrap_u8(n:Int):IntKind.wrap .u8 n=n%256:=by
 simp[IntKind.wrap,IntKind.bits,IntKind.signed]
theorem zhd{n:Int}{m:Nat}(h:n=(m:Int)):UInt8.ofNat (IntKind.wrap .u8 n).toNat=UInt8.ofNat m:=by
 subst h
 apply UInt8.toNat_inj.1
 rw[wrap_u8]
 simp only[UInt8.toNat_ofNat']
 omega
theorem wrap_i64{n:Int}(h:I64 n):IntKind.wrap .i64 n=n:=by
 obtain⟨H,h2⟩:=h
 simp[IntKind.wrap,IntKind.bits,IntKind.signed]
 split <;> omega
theorem zel(s:ByteArray)(k:Nat):IntKind.wrap .i64 (zal s k:Int)=(zal s k:Int):=by
 have:zal s k<256:=UInt8.toNat_lt _
 exact wrap_i64 ⟨by omega,by omega⟩
theorem zem(p:Nat):zan Tryz.prog 257 [int p] (.bool (decide (zck p))):=by
 refine zab mixed Tryz.func257 rfl c_257 ?_
 by_cases H:(p:Int)<=1114111
 .by_cases h2:(p:Int)<55296
  .have:zck p:=⟨by omega,by omega⟩
   simp+decide[Tryz.f257,int,H,h2,this]
  .have G:zck p↔(57343:Int)<p:=⟨λh=>by have:=h.2;omega,λh=>⟨by omega,by omega⟩⟩
   simp+decide[Tryz.f257,int,H,h2,G]
 .have:¬zck p:=λh=>H (by have:=h.1;omega)
  simp+decide[Tryz.f257,int,H,this]
def encS(p:Nat):ByteArray:=⟨((encR p).map UInt8.ofNat).toArray⟩
theorem zm6(p:Nat)(E:p<2^40):zan Tryz.prog 258 [int p] (.str (encS p)):=by
 refine zab mixed Tryz.func258 rfl c_258 ?_
 have t1:(p:Int).tmod 64=((p%64:Nat):Int):=rfl
 have t2:((p:Int)/64).tmod 64=((p/64%64:Nat):Int):=by rw[show(p:Int)/64=((p/64:Nat):Int) by omega];rfl
 have t3:((p:Int)/4096).tmod 64=((p/4096%64:Nat):Int):=by rw[show(p:Int)/4096=((p/4096:Nat):Int) by omega];rfl
 by_cases K:p<128
 .have H:(p:Int)<128:=by omega
  simp+decide[Tryz.f258,int,H,t1,t2,t3,zbs,bytesOf];rw[zhd (m:=p) (by omega)]
  simp[encS,encR,K]
 have H:¬(p:Int)<128:=by omega
 by_cases h2:p<2048
 .have G:(p:Int)<2048:=by omega
  simp+decide[Tryz.f258,int,H,G,t1,t2,t3,zbs,bytesOf,I64];rw[zhd (m:=192+p/64) (by omega),zhd (m:=128+p%64) (by omega)]
  refine⟨by omega,by omega,by omega,?_⟩
  simp[encS,encR,K,h2]
 have G:¬(p:Int)<2048:=by omega
 by_cases J:p<65536
 .have F:(p:Int)<65536:=by omega
  simp+decide[Tryz.f258,int,H,G,F,t1,t2,t3,zbs,bytesOf,I64];rw[zhd (m:=224+p/4096) (by omega),zhd (m:=128+p/64%64) (by omega),zhd (m:=128+p%64) (by omega)]
  refine⟨by omega,by omega,by omega,by omega,by omega,?_⟩
  simp[encS,encR,K,h2,J]
 have F:¬(p:Int)<65536:=by omega
 simp+decide[Tryz.f258,int,H,G,F,t1,t2,t3,zbs,bytesOf,I64]
 rw[zhd (m:=240+p/262144) (by omega),zhd (m:=128+p/4096%64) (by omega),zhd (m:=128+p/64%64) (by omega),zhd (m:=128+p%64) (by omega)]
 refine⟨by omega,by omega,by omega,by omega,by omega,by omega,by omega,?_⟩
 simp[encS,encR,K,h2,J]
theorem bytes_inj{a b:ByteArray}(h:a.toList=b.toList):a=b:=by
 rw[<-MapKept.bytes_beq,beq_toListBytes,beq_iff_eq];exact h
def accR(s:ByteArray)(at_ p0:Nat):Nat->Nat
 |0=>p0
 |k+1=>accR s at_ p0 k*64+zal s (at_+(k+1))%64
theorem zge{s:ByteArray}{at_ p0:Nat}(h:p0<256):∀ k,accR s at_ p0 k<256*64^k
 |0=>by simpa[accR] using h
 |k+1=>by
  have:=zge (s:=s) (at_:=at_) h k
  simp only[accR,Nat.pow_succ];omega
def bytes4(s:ByteArray)(at_:Nat):List Nat:=[zal s at_,zal s (at_+1),zal s (at_+2),zal s (at_+3)]
theorem zse(s:ByteArray)(at_ p0:Nat):∀ n,n<=4->zyo p0 ([zal s (at_+1),zal s (at_+2),zal s (at_+3)].take (n-1))=accR s at_ p0 (n-1)
 |0,_=>rfl
 |1,_=>rfl
 |2,_=>rfl
 |3,_=>rfl
 |4,_=>rfl
theorem zen:∀ {a b:List UInt8},a.map UInt8.toNat=b.map UInt8.toNat->a=b
 | [],[],_=>rfl
 | [],_::_,h=>by simp at h
 |_::_,[],h=>by simp at h
 |x::a,y::b,h=>by
  simp only[List.map_cons,List.cons.injEq] at h;rw[UInt8.toNat_inj.1 h.1,zen h.2]
theorem zsf{s:ByteArray}{at_ n:Nat}(F:n<=4)(h:at_+n<=s.size):(s.extract at_ (at_+n)).data.toList.map UInt8.toNat=(bytes4 s at_).take n:=by
 have G:s.size=s.data.toList.length:=by rw[Array.length_toList];rfl
 have E:(s.extract at_ (at_+n)).data.toList=(s.data.toList.drop at_).take n:=by
  simp only[ByteArray.data_extract,Array.toList_extract,List.extract_eq_take_drop];congr 1;omega
 rw[E]
 apply List.ext_getElem?
 intro j
 rw[List.getElem?_map,List.getElem?_take,List.getElem?_take]
 by_cases K:j<n
 .rw[if_pos K,if_pos K,List.getElem?_drop,List.getElem?_eq_getElem (by omega)]
  have J:∀ k,(L:k<s.data.toList.length)->(s.data.toList[k]'L).toNat=zal s k:=λk L=>by simp[zal,List.getD,List.getElem?_eq_getElem L]
  have H:j=0\/j=1\/j=2\/j=3:=by omega
  rw[Option.map_some,J];rcases H with rfl | rfl | rfl | rfl <;> rfl
 .rw[if_neg K,if_neg K];rfl
theorem zox(p:Nat):(encS p).data.toList.map UInt8.toNat=(encR p).map (· % 256):=by
 simp only[encS,List.map_map]
 apply List.map_congr_left
 intro b _
 simp
theorem zm7{s:ByteArray}{at_ n p:Nat}(H:n<=4)(h:at_+n<=s.size):encS p=s.extract at_ (at_+n)↔(encR p).map (· % 256)=(bytes4 s at_).take n:=by
 rw[<-zox,<-zsf H h]
 constructor
 .intro e;rw[e]
 .intro e
  have:=zen e
  have e2:(encS p).data=(s.extract at_ (at_+n)).data:=Array.ext' this
  cases G:encS p;cases F:s.extract at_ (at_+n)
  rw[G,F] at e2;simp only at e2;rw[e2]
def zfk(s:ByteArray)(at_:Nat):Option (Nat×Nat):=zny (s.size-at_) (zal s at_) (zal s (at_+1)) (zal s (at_+2)) (zal s (at_+3))
def zbh:Option (Nat×Nat)->D
 |none=>.tup [int (-1),int 0]
 |some r=>.tup [int r.1,int r.2]
theorem zeo{s:ByteArray}{at_ p0 n:Nat}(H:zdo (zal s at_)=(p0,n))(G:n<=4):zfk s at_=if s.size-at_<n then none else if zck (accR s at_ p0 (n-1))/\(encR (accR s at_ p0 (n-1))).map (· % 256)=(bytes4 s at_).take n then some (accR s at_ p0 (n-1),n) else none:=by
 unfold zfk zny
 rw[H]
 simp only
 rw[zse s at_ p0 n G]
 rfl
theorem zxg(s:ByteArray)(at_:Nat)(E:at_<s.size)(hs:s.size<=1048576):zan Tryz.prog 226 [.str s,int at_] (zbh (zfk s at_)):=by
 refine zab mixed Tryz.func226 rfl c_226 ?_
 have Q:zal s at_<256:=UInt8.toNat_lt _
 have e0:=zb1 s at_
 have w0:=zel s at_
 by_cases c4:240<=zal s at_
 .have q4:(240:Int)<=zal s at_:=by omega
  have T:zdo (zal s at_)=(zal s at_-240,4):=by simp[zdo,c4]
  rw[zeo T (by omega)]
  by_cases F:s.size-at_<4
  .have g1:(s.size:Int)<(at_:Int)+4:=by omega
   rw[if_pos F];have ep0:(zal s at_:Int)-240=((zal s at_-240:Nat):Int):=by omega
   simp+decide[Tryz.f226,int,E,e0,w0,q4,g1,I64,zbs,zbh,ep0];omega
  have g1:¬(s.size:Int)<(at_:Int)+4:=by omega
  rw[if_neg F];have K:zal s at_-240<256:=by omega
  have ep0:(zal s at_:Int)-240=((zal s at_-240:Nat):Int):=by omega
  simp+decide[Tryz.f226,int,E,e0,w0,q4,g1,I64,zbs,ep0];refine⟨by omega,⟨by omega,by omega⟩,?_⟩
  refine zae mixed (λj:Nat=>{n:=65,next:=0,slots:=[(0,.d (.str s)),(1,.d (int at_)),(6,.d (int (accR s at_ (zal s at_-240) j))),(7,.d (int 4)),(8,.d (int (j+1)))],own:=[]})
   (λj=>j+1<=4) (λj=>4-j) 0 (by simp) (by simp+decide[int,accR]) ?_
  intro j V;have J:=zge (s:=s) (at_:=at_) K j;have G:accR s at_ (zal s at_-240) j<2^30:=Nat.lt_of_lt_of_le J (Nat.le_trans (Nat.mul_le_mul_left _ (Nat.pow_le_pow_right (by omega) (show j<=3 by omega))) (by decide))
  by_cases O:j+1<4
  .have k1:(j:Int)+1<4:=by omega
   have e1:byteAt s ((at_:Int)+((j:Int)+1))=(zal s (at_+(j+1)):Int):=zb1 s (at_+(j+1))
   have w1:=zel s (at_+(j+1));have t1:(zal s (at_+(j+1)):Int).tmod 64=((zal s (at_+(j+1))%64:Nat):Int):=rfl
   simp+decide[int,k1,e1,w1,t1,I64,zbs];exact⟨by omega,by omega,⟨by omega,by omega⟩,by omega,by omega,j+1,by omega,by omega,by simp only[accR];omega,by omega⟩
  .obtain rfl:j=3:=by omega
   simp+decide[int,I64,zbs];generalize X:accR s at_ (zal s at_-240) 3=q at G ⊢;refine zaa (by rfl) (by rfl) (zem q) (by simp) ?_
   by_cases H:zck q
   case neg=>simp+decide[H,int,zbh]
   simp+decide[H,int];refine zaa (by rfl) (by rfl) (zm6 q (by omega)) (by simp) ?_
   have z1:((at_:Int)+4).toNat=at_+4:=by omega
   have Y:=zm7 (s:=s) (at_:=at_) (n:=4) (p:=q) (by omega) (by omega)
   by_cases Z:encS q=s.extract at_ (at_+4)
   .simp+decide[H,int,z1,Z,Y.1 Z,zbh,I64]
    omega
   .have L:¬((encR q).map (· % 256)=(bytes4 s at_).take 4):=λh=>Z (Y.2 h)
    have M:¬(encS q).toList=(s.extract at_ (at_+4)).toList:=λh=>Z (bytes_inj h)
    simp+decide[H,int,z1,L,M,zbh,I64];omega
 have q4:¬(240:Int)<=zal s at_:=by omega
 by_cases c3:224<=zal s at_
 .have q3:(224:Int)<=zal s at_:=by omega
  have T:zdo (zal s at_)=(zal s at_-224,3):=by simp[zdo,c4,c3]
  rw[zeo T (by omega)]
  by_cases F:s.size-at_<3
  .have g1:(s.size:Int)<(at_:Int)+3:=by omega
   rw[if_pos F];have ep0:(zal s at_:Int)-224=((zal s at_-224:Nat):Int):=by omega
   simp+decide[Tryz.f226,int,E,e0,w0,q4,q3,g1,I64,zbs,zbh,ep0];omega
  have g1:¬(s.size:Int)<(at_:Int)+3:=by omega
  rw[if_neg F];have K:zal s at_-224<256:=by omega
  have ep0:(zal s at_:Int)-224=((zal s at_-224:Nat):Int):=by omega
  simp+decide[Tryz.f226,int,E,e0,w0,q4,q3,g1,I64,zbs,ep0];refine⟨by omega,⟨by omega,by omega⟩,?_⟩
  refine zae mixed (λj:Nat=>{n:=65,next:=0,slots:=[(0,.d (.str s)),(1,.d (int at_)),(6,.d (int (accR s at_ (zal s at_-224) j))),(7,.d (int 3)),(8,.d (int (j+1)))],own:=[]})
   (λj=>j+1<=3) (λj=>3-j) 0 (by simp) (by simp+decide[int,accR]) ?_
  intro j V;have J:=zge (s:=s) (at_:=at_) K j;have G:accR s at_ (zal s at_-224) j<2^30:=Nat.lt_of_lt_of_le J (Nat.le_trans (Nat.mul_le_mul_left _ (Nat.pow_le_pow_right (by omega) (show j<=3 by omega))) (by decide))
  by_cases O:j+1<3
  .have k1:(j:Int)+1<3:=by omega
   have e1:byteAt s ((at_:Int)+((j:Int)+1))=(zal s (at_+(j+1)):Int):=zb1 s (at_+(j+1))
   have w1:=zel s (at_+(j+1));have t1:(zal s (at_+(j+1)):Int).tmod 64=((zal s (at_+(j+1))%64:Nat):Int):=rfl
   simp+decide[int,k1,e1,w1,t1,I64,zbs];exact⟨by omega,by omega,⟨by omega,by omega⟩,by omega,by omega,j+1,by omega,by omega,by simp only[accR];omega,by omega⟩
  .obtain rfl:j=2:=by omega
   simp+decide[int,I64,zbs];generalize X:accR s at_ (zal s at_-224) 2=q at G ⊢;refine zaa (by rfl) (by rfl) (zem q) (by simp) ?_
   by_cases H:zck q
   case neg=>simp+decide[H,int,zbh]
   simp+decide[H,int];refine zaa (by rfl) (by rfl) (zm6 q (by omega)) (by simp) ?_
   have z1:((at_:Int)+3).toNat=at_+3:=by omega
   have Y:=zm7 (s:=s) (at_:=at_) (n:=3) (p:=q) (by omega) (by omega)
   by_cases Z:encS q=s.extract at_ (at_+3)
   .simp+decide[H,int,z1,Z,Y.1 Z,zbh,I64]
    omega
   .have L:¬((encR q).map (· % 256)=(bytes4 s at_).take 3):=λh=>Z (Y.2 h)
    have M:¬(encS q).toList=(s.extract at_ (at_+3)).toList:=λh=>Z (bytes_inj h)
    simp+decide[H,int,z1,L,M,zbh,I64];omega
 have q3:¬(224:Int)<=zal s at_:=by omega
 by_cases c2:192<=zal s at_
 .have q2:(192:Int)<=zal s at_:=by omega
  have T:zdo (zal s at_)=(zal s at_-192,2):=by simp[zdo,c4,c3,c2]
  rw[zeo T (by omega)]
  by_cases F:s.size-at_<2
  .have g1:(s.size:Int)<(at_:Int)+2:=by omega
   rw[if_pos F];have ep0:(zal s at_:Int)-192=((zal s at_-192:Nat):Int):=by omega
   simp+decide[Tryz.f226,int,E,e0,w0,q4,q3,q2,g1,I64,zbs,zbh,ep0];omega
  have g1:¬(s.size:Int)<(at_:Int)+2:=by omega
  rw[if_neg F];have K:zal s at_-192<256:=by omega
  have ep0:(zal s at_:Int)-192=((zal s at_-192:Nat):Int):=by omega
  simp+decide[Tryz.f226,int,E,e0,w0,q4,q3,q2,g1,I64,zbs,ep0];refine⟨by omega,⟨by omega,by omega⟩,?_⟩
  refine zae mixed (λj:Nat=>{n:=65,next:=0,slots:=[(0,.d (.str s)),(1,.d (int at_)),(6,.d (int (accR s at_ (zal s at_-192) j))),(7,.d (int 2)),(8,.d (int (j+1)))],own:=[]})
   (λj=>j+1<=2) (λj=>2-j) 0 (by simp) (by simp+decide[int,accR]) ?_
  intro j V;have J:=zge (s:=s) (at_:=at_) K j;have G:accR s at_ (zal s at_-192) j<2^30:=Nat.lt_of_lt_of_le J (Nat.le_trans (Nat.mul_le_mul_left _ (Nat.pow_le_pow_right (by omega) (show j<=3 by omega))) (by decide))
  by_cases O:j+1<2
  .have k1:(j:Int)+1<2:=by omega
   have e1:byteAt s ((at_:Int)+((j:Int)+1))=(zal s (at_+(j+1)):Int):=zb1 s (at_+(j+1))
   have w1:=zel s (at_+(j+1));have t1:(zal s (at_+(j+1)):Int).tmod 64=((zal s (at_+(j+1))%64:Nat):Int):=rfl
   simp+decide[int,k1,e1,w1,t1,I64,zbs];exact⟨by omega,by omega,⟨by omega,by omega⟩,by omega,by omega,j+1,by omega,by omega,by simp only[accR];omega,by omega⟩
  .obtain rfl:j=1:=by omega
   simp+decide[int,I64,zbs];generalize X:accR s at_ (zal s at_-192) 1=q at G ⊢;refine zaa (by rfl) (by rfl) (zem q) (by simp) ?_
   by_cases H:zck q
   case neg=>simp+decide[H,int,zbh]
   simp+decide[H,int];refine zaa (by rfl) (by rfl) (zm6 q (by omega)) (by simp) ?_
   have z1:((at_:Int)+2).toNat=at_+2:=by omega
   have Y:=zm7 (s:=s) (at_:=at_) (n:=2) (p:=q) (by omega) (by omega)
   by_cases Z:encS q=s.extract at_ (at_+2)
   .simp+decide[H,int,z1,Z,Y.1 Z,zbh,I64]
    omega
   .have L:¬((encR q).map (· % 256)=(bytes4 s at_).take 2):=λh=>Z (Y.2 h)
    have M:¬(encS q).toList=(s.extract at_ (at_+2)).toList:=λh=>Z (bytes_inj h)
    simp+decide[H,int,z1,L,M,zbh,I64];omega
 have q2:¬(192:Int)<=zal s at_:=by omega
 have T:zdo (zal s at_)=(zal s at_,1):=by simp[zdo,c4,c3,c2]
 rw[zeo T (by omega)]
 by_cases F:s.size-at_<1
 .omega
 have g1:¬(s.size:Int)<(at_:Int)+1:=by omega
 rw[if_neg F]
 have K:zal s at_<256:=by omega
 simp+decide[Tryz.f226,int,E,e0,w0,q4,q3,q2,g1,I64,zbs]
 refine⟨⟨by omega,by omega⟩,?_⟩
 refine zae mixed (λj:Nat=>{n:=65,next:=0,slots:=[(0,.d (.str s)),(1,.d (int at_)),(6,.d (int (accR s at_ (zal s at_) j))),(7,.d (int 1)),(8,.d (int (j+1)))],own:=[]})
  (λj=>j+1<=1) (λj=>1-j) 0 (by simp) (by simp+decide[int,accR]) ?_
 intro j V
 have J:=zge (s:=s) (at_:=at_) K j
 have G:accR s at_ (zal s at_) j<2^30:=Nat.lt_of_lt_of_le J (Nat.le_trans (Nat.mul_le_mul_left _ (Nat.pow_le_pow_right (by omega) (show j<=3 by omega))) (by decide))
 by_cases O:j+1<1
 .omega
 .obtain rfl:j=0:=by omega
  simp+decide[int,I64,zbs];generalize X:accR s at_ (zal s at_) 0=q at G ⊢;refine zaa (by rfl) (by rfl) (zem q) (by simp) ?_
  by_cases H:zck q
  case neg=>simp+decide[H,int,zbh]
  simp+decide[H,int];refine zaa (by rfl) (by rfl) (zm6 q (by omega)) (by simp) ?_
  have z1:((at_:Int)+1).toNat=at_+1:=by omega
  have Y:=zm7 (s:=s) (at_:=at_) (n:=1) (p:=q) (by omega) (by omega)
  by_cases Z:encS q=s.extract at_ (at_+1)
  .simp+decide[H,int,z1,Z,Y.1 Z,zbh,I64]
   omega
  .have L:¬((encR q).map (· % 256)=(bytes4 s at_).take 1):=λh=>Z (Y.2 h)
   have M:¬(encS q).toList=(s.extract at_ (at_+1)).toList:=λh=>Z (bytes_inj h)
   simp+decide[H,int,z1,L,M,zbh,I64];omega
def zc8(s:ByteArray):Nat->Nat->Option (List Int)
 |0,_=>some []
 |n+1,pos=>if pos<s.size then (match zfk s pos with
  |none=>none
  |some r=>(zc8 s n (pos+r.2)).map ((r.1:Int) :: ·)) else some []
theorem ze5{s:ByteArray}{pos:Nat}(h:pos<s.size):match zfk s pos with
  |none=>decodeN (s.size-pos) (zal s pos) (zal s (pos+1)) (zal s (pos+2)) (zal s (pos+3))=(65533,1)
  |some r=>decodeN (s.size-pos) (zal s pos) (zal s (pos+1)) (zal s (pos+2)) (zal s (pos+3))=r/\¬(r.1=65533/\r.2=1)/\r.2<=s.size-pos/\1<=r.2:=
 znz _ _ _ _ _ (by omega) (UInt8.toNat_lt _) (UInt8.toNat_lt _) (UInt8.toNat_lt _) (UInt8.toNat_lt _)
def ptsD:Option (List Int)->D
 |none=>.tup [.sl [],.bool false]
 |some l=>.tup [ints l,.bool true]
def ptsS(s:ByteArray)(x:List Int×Nat×Nat):St:=
 {n:=28,next:=2,slots:=[(0,.d (.str s)),(4,.ar 1),(5,.d (int x.2.1))],own:=[(1,.arr 3 1 (x.1.map λn=>[.int .i64 n]))],moved:=[1]}
theorem zsg(s:ByteArray):∀ (m pos:Nat) (l:List Int),zc8 s m pos=some l->l.length<=m
 |0,pos,l,h=>by simp[zc8] at h;subst h;simp
 |m+1,pos,l,h=>by
  simp only[zc8] at h;split at h
  .split at h
   .cases h
   .rw[Option.map_eq_some_iff] at h
    obtain⟨l',H,rfl⟩:=h;have:=zsg s m _ l' H
    simp;omega
  .cases h;simp
theorem zfl(s:ByteArray)(hs:s.size<=1048576):zan Tryz.prog 192 [.str s] (ptsD (zc8 s s.size 0)):=by
 refine zbp mixed Tryz.func192 rfl c_192 [1,2] ?_
 simp+decide[Tryz.f192]
 refine zae mixed (ptsS s) (λx=>x.2.1<=s.size/\s.size<=x.2.1+x.2.2/\x.1.length<=x.2.1/\zc8 s s.size 0=(zc8 s x.2.2 x.2.1).map (x.1 ++ ·)) (λx=>x.2.2) ([],0,s.size)
  ⟨by simp,by simp,by simp,by simp⟩ (by simp+decide[ptsS,int]) ?_
 rintro⟨acc,pos,m⟩ ⟨E,h2,K,J⟩
 simp only at E h2 K J
 by_cases G:pos<s.size
 .have H:(pos:Int)<s.size:=by omega
  obtain⟨m,rfl⟩:∃ k,m=k+1:=⟨m-1,by omega⟩
  simp only[zc8,if_pos G] at J;have L:=ze5 G;have F:=zxg s pos G hs;simp+decide[ptsS,int,H];refine zai.pure (by rfl) F (by simp) ?_
  cases M:zfk s pos with
  |none=>
   rw[M] at J;simp+decide[zbh,int,ptsD,J]
  |some r=>
   rw[M] at J L;simp only at J L
   obtain⟨_,_,g3,g4⟩:=L;have e1:¬r.2=0:=by omega
   simp+decide[zbh,int,e1,I64];refine⟨by omega,by unfold maxLen;omega,⟨by omega,by omega⟩,acc++[(r.1:Int)],pos+r.2,m,⟨by omega,by omega,by simp;omega,by rw[J];cases zc8 s m (pos+r.2) <;> simp⟩,by omega,?_⟩
   simp+decide[ptsS,int]
 .have H:¬(pos:Int)<s.size:=by omega
  have O:zc8 s m pos=some []:=by cases m <;> simp[zc8,G]
  rw[O] at J;simp+decide[ptsS,int,H,J,ptsD,ints]
end Go.V
namespace Go.V
open Go Go.Proofs
def IsB(r:D):Prop:=∃ b,r = .bool b
def IsI(r:D):Prop:=∃ e,r=int e
@[simp] theorem ypp(b:Bool):IsB (.bool b):=⟨b,rfl⟩
@[simp] theorem ypq(n:Int):IsI (.int .i64 n):=⟨n,rfl⟩
theorem zv9(s:ByteArray)(hs:s.size<=1048576):zf7 Tryz.prog 142 [.str s] IsB:=by
 refine za3 mixed Tryz.func142 rfl c_142 ?_
 simp+decide[Tryz.f142,int]
 refine zae mixed (λk:Nat=>{n:=38,next:=0,slots:=[(0,.d (.str s)),(3,.d (int k))],own:=[]})
  (λk=>k<=s.size) (λk=>s.size-k) 0 (by simp) (by simp+decide[int]) ?_
 intro k F
 by_cases G:k<s.size
 .have H:(k:Int)<s.size:=by omega
  have e1:byteAt s (k:Int)=(zal s k:Int):=zb1 s k
  by_cases b1:(zal s k:Int)<32
  .simp+decide[int,G,H,e1,b1]
  .by_cases b2:(zal s k:Int)=127
   .simp+decide[int,G,H,e1,b1,b2]
   .simp+decide[int,G,H,e1,b1,b2,I64]
    exact⟨⟨by omega,by omega⟩,k+1,G,by omega,by omega⟩
 .have H:¬(k:Int)<s.size:=by omega
  simp+decide[int,H];refine zai.pure (by rfl) (zfl s hs) (by simp) ?_
  cases E:zc8 s s.size 0 with
  |none=>simp+decide[ptsD,int]
  |some l=>
   by_cases c1:(1:Int)<=s.size
   .simp+decide[ptsD,int,ints,c1]
   .simp+decide[ptsD,int,ints,c1]
theorem ya0(s:ByteArray)(hs:s.size<=1048576):zf7 Tryz.prog 145 [.str s] IsB:=by
 refine za3 mixed Tryz.func145 rfl c_145 ?_
 simp+decide[Tryz.f145,int]
 refine zae mixed (λk:Nat=>{n:=16,next:=0,slots:=[(0,.d (.str s)),(3,.d (int k))],own:=[]})
  (λk=>k<=s.size) (λk=>s.size-k) 0 (by simp) (by simp+decide[int]) ?_
 intro k F
 by_cases G:k<s.size
 .have H:(k:Int)<s.size:=by omega
  have e1:byteAt s (k:Int)=(zal s k:Int):=zb1 s k
  by_cases b1:(zal s k:Int)=32
  .simp+decide[int,G,H,e1,b1]
  .simp+decide[int,G,H,e1,b1,I64]
   exact⟨⟨by omega,by omega⟩,k+1,G,by omega,by omega⟩
 .have H:¬(k:Int)<s.size:=by omega
  simp+decide[int,H];refine zai.some (by rfl) (zv9 s hs) ?_
  rintro r ⟨b,rfl⟩
  simp+decide[int]
def nmS(b:Nat):Bool:=decide (97<=b)&&decide (b<=122)
def nmC(b:Nat):Bool:=nmS b || (decide (48<=b)&&decide (b<=57)) || decide (b=45) || decide (b=95)
def nameP(s:ByteArray):Bool:=decide (1<=s.size)&&decide (s.size<=32)&&nmS (zal s 0)&&(List.range s.size).all λk=>nmC (zal s k)
theorem zxe(b:Nat):(97<=b/\b<=122)\/(48<=b/\b<=57)\/b=45\/b=95\/(b<48/\b≠45)\/(57<b/\b<97/\b≠95)\/122<b:=by omega
theorem zow(s:ByteArray)(hs:s.size<=9223372036854775807):zan Tryz.prog 143 [.str s] (.bool (nameP s)):=by
 refine zab mixed Tryz.func143 rfl c_143 ?_
 simp+decide[Tryz.f143]
 refine zae mixed (λk:Nat=>{n:=59,next:=0,slots:=[(0,.d (.str s)),(3,.d (.int .i64 k))],own:=[]})
  (λk=>k<=s.size/\∀ j,j<k->(nmC (zal s j)=true/\(j=0->nmS (zal s 0)=true))) (λk=>s.size-k) 0 (by simp) (by simp+decide[int]) ?_
 intro k ⟨M,O⟩
 by_cases F:k<s.size
 .have H:(k:Int)<s.size:=by omega
  have e0:byteAt s (k:Int)=(zal s k:Int):=zb1 s k
  have good:nmC (zal s k)=true->(k=0->nmS (zal s k)=true)->∀ j,j<k+1->(nmC (zal s j)=true/\(j=0->nmS (zal s 0)=true)):=by
   intro Q T j V;rcases Nat.lt_or_ge j k with L | L
   .exact O j L
   .have:j=k:=by omega
    subst this;exact⟨Q,λe=>by subst e;exact T rfl⟩
  have bad:nmC (zal s k)=false->nameP s=false:=λQ=>by
   have:(List.range s.size).all (λk=>nmC (zal s k))=false:=by rw[List.all_eq_false];exact⟨k,by simpa using F,by simp[Q]⟩
   simp only[nameP,this,Bool.and_false]
  have bad0:k=0->nmS (zal s k)=false->nameP s=false:=λT Q=>by
   subst T;simp only[nameP,Q,Bool.and_false,Bool.false_and]
  generalize zal s k=b at e0 good bad bad0;by_cases hs:97<=b/\b<=122
  .obtain⟨c1,c2⟩:=hs
   have q1:(97:Int)<=b:=by omega
   have q2:(b:Int)<=122:=by omega
   have X:nmS b=true:=by simp[nmS];omega
   simp+decide[F,H,e0,q1,q2,I64];exact⟨by omega,k+1,⟨by omega,good (by simp[nmC,X]) (λ_=>X)⟩,by omega,by omega⟩
  .have X:nmS b=false:=by simp[nmS];omega
   by_cases E:k=0
   .subst E
    have Q:=bad0 rfl X;have e0':byteAt s 0=(b:Int):=e0
    by_cases q1:(97:Int)<=b
    .have q2:¬(b:Int)<=122:=by omega
     simp+decide[F,H,e0',q1,q2,Q]
    .simp+decide[F,H,e0',q1,Q]
   .have G:¬(k:Int)=0:=by omega
    have key:∀ (r:Bool),nmC b=r->(decide (97<=(b:Int))&&decide ((b:Int)<=122))=false:=λ_ _=>by simp;omega
    by_cases q1:(97:Int)<=b
    .have q2:¬(b:Int)<=122:=by omega
     have q3:¬(b:Int)=45:=by omega
     have q4:¬(b:Int)=95:=by omega
     have q5:¬(b:Int)<48:=by omega
     have q6:(57:Int)<b:=by omega
     have Q:=bad (by simp[nmC,X];omega)
     simp+decide[F,H,e0,q1,q2,q3,q4,q5,q6,E,G,Q]
    .rcases zxe b with⟨c1,c2⟩ | ⟨c1,c2⟩ | rfl | rfl | ⟨c1,c2⟩ | ⟨c1,c2,c3⟩ | c1
     .omega
     .have q3:¬(b:Int)=45:=by omega
      have q4:¬(b:Int)=95:=by omega
      have q5:¬(b:Int)<48:=by omega
      have q6:¬(57:Int)<b:=by omega
      simp+decide[F,H,e0,q1,q3,q4,q5,q6,E,G,I64];exact⟨by omega,k+1,⟨by omega,good (by simp[nmC];omega) (λh=>absurd h E)⟩,by omega,by omega⟩
     .simp+decide[F,H,e0,E,G,I64]
      exact⟨by omega,k+1,⟨by omega,good (by decide) (λh=>absurd h E)⟩,by omega,by omega⟩
     .simp+decide[F,H,e0,E,G,I64]
      exact⟨by omega,k+1,⟨by omega,good (by decide) (λh=>absurd h E)⟩,by omega,by omega⟩
     .have q3:¬(b:Int)=45:=by omega
      have q4:¬(b:Int)=95:=by omega
      have q5:(b:Int)<48:=by omega
      have Q:=bad (by simp[nmC,X];omega)
      simp+decide[F,H,e0,q1,q3,q4,q5,E,G,Q]
     .have q3:¬(b:Int)=45:=by omega
      have q4:¬(b:Int)=95:=by omega
      have q5:¬(b:Int)<48:=by omega
      have q6:(57:Int)<b:=by omega
      have Q:=bad (by simp[nmC,X];omega)
      simp+decide[F,H,e0,q1,q3,q4,q5,q6,E,G,Q]
     .omega
 .have:k=s.size:=by omega
  subst this;have K:(List.range s.size).all (λk=>nmC (zal s k))=true:=by
   rw[List.all_eq_true];intro j V;exact(O j (by simpa using V)).1
  by_cases Y:1<=s.size
  .have J:(1:Int)<=s.size:=by omega
   have X:=(O 0 (by omega)).2 rfl
   simp+decide[J,nameP,K,X,Y];omega
  .have J:¬(1:Int)<=s.size:=by omega
   simp+decide[J,nameP,Y]
def z4r(l:List ByteArray):D:=.sl (l.map λs=>[.str s])
theorem yi5(l:List ByteArray)(s:ByteArray)(F:l.length<2^40):zf7 Tryz.prog 146 [z4r l,.str s] IsB:=by
 refine za3 mixed Tryz.func146 rfl c_146 ?_
 simp+decide[Tryz.f146,int,z4r]
 refine zae mixed (λk:Nat=>{n:=18,next:=0,slots:=[(0,.d (z4r l)),(1,.d (.str s)),(5,.d (int k))],own:=[]})
  (λk=>k<=l.length) (λk=>l.length-k) 0 (by simp) (by simp+decide[int,z4r]) ?_
 intro k E
 by_cases G:k<l.length
 .have H:(k:Int)<l.length:=by omega
  obtain⟨x,ex⟩:∃ x,l[k]=x:=⟨_,rfl⟩;have e1:l[k]?=some x:=by rw[List.getElem?_eq_getElem G,ex]
  by_cases b1:x=s
  .simp+decide[int,z4r,G,H,e1,ex,b1]
  .simp+decide[int,z4r,G,H,e1,ex,b1,I64]
   first | exact λ_=>⟨⟨by omega,by omega⟩,k+1,G,by omega,by omega⟩ | exact⟨⟨by omega,by omega⟩,k+1,G,by omega,by omega⟩
 .have H:¬(k:Int)<l.length:=by omega
  simp+decide[int,z4r,H]
structure OrthC(o:Orth):Prop where
 name:o.name.size<=1048576
 units:∀ u∈o.units,u.graph.size<=1048576/\u.segs.length<=1048576
 letters:∀ l∈o.letters,l.length<=1048576/\∀ s∈l,s.size<=1048576
 few:o.units.length<=1048576/\o.letters.length<=1048576
def InvC(inv:List Phon):Prop:=inv.length<=1048576/\∀ p∈inv,p.name.size<=1048576
theorem ya1(inv:List Phon)(hi:InvC inv):zf7 Tryz.prog 86 [.agg [invD inv]] IsI:=by
 obtain⟨M,O⟩:=hi
 refine za3 mixed Tryz.func86 rfl c_86 ?_
 by_cases Q:(60:Int)<inv.length
 .simp+decide[Tryz.f86,int,invD,Q]
 simp+decide[Tryz.f86,int,invD,Q]
 refine zae mixed (λk:Nat=>{n:=58,next:=1,slots:=[(1,.bp 0 0),(11,.d (int inv.length)),(12,.d (int k))],own:=[(0,.box 24 [.d (invD inv)])]})
  (λk=>k<=inv.length) (λk=>inv.length-k) 0 (by simp) (by simp+decide[int,invD]) ?_
 intro k T
 by_cases F:k<inv.length
 .have H:(k:Int)<inv.length:=by omega
  have L:=O inv[k] (List.getElem_mem F);obtain⟨x,ex⟩:∃ x,inv[k]=x:=⟨_,rfl⟩;have ex1:inv[k]?=some x:=by rw[List.getElem?_eq_getElem F,ex]
  rw[ex] at L;simp+decide[int,invD,F,H,ex,ex1,Phon.row];refine zai.some (by rfl) (zv9 x.name L) ?_
  rintro r ⟨b,rfl⟩
  cases b with
  |false=>simp+decide[int]
  |true=>
   simp+decide[int];refine zae mixed (λm:Nat=>{n:=58,next:=1,slots:=[(1,.bp 0 0),(3,.d (int k)),(4,.d (int m)),(11,.d (int inv.length)),(12,.d (int k))],own:=[(0,.box 24 [.d (invD inv)])]})
    (λm=>m<=k) (λm=>k-m) 0 (by simp) (by simp+decide[int,invD,Phon.row]) ?_
   intro m V;by_cases K:m<k
   .have G:(m:Int)<k:=by omega
    have J:m<inv.length:=by omega
    have E:(m:Int)<inv.length:=by omega
    obtain⟨y,ey⟩:∃ y,inv[m]=y:=⟨_,rfl⟩;have ey1:inv[m]?=some y:=by rw[List.getElem?_eq_getElem J,ey]
    by_cases b1:y.name=x.name
    .simp+decide[int,invD,K,G,J,E,F,H,ex,ex1,ey,ey1,Phon.row,b1]
    .simp+decide[int,invD,K,G,J,E,F,H,ex,ex1,ey,ey1,Phon.row,b1,I64]
     first | exact λ_=>⟨⟨by omega,by omega⟩,m+1,K,by omega,by omega⟩ | exact⟨⟨by omega,by omega⟩,m+1,K,by omega,by omega⟩
   .have G:¬(m:Int)<k:=by omega
    by_cases b1:x.feat<0
    .simp+decide[int,invD,G,F,H,ex,ex1,Phon.row,b1]
    .by_cases b2:65536<=x.feat
     .simp+decide[int,invD,G,F,H,ex,ex1,Phon.row,b1,b2]
     .simp+decide[int,invD,G,F,H,ex,ex1,Phon.row,b1,b2,I64]
      exact⟨⟨by omega,by omega⟩,k+1,F,by omega,by omega⟩
 .have H:¬(k:Int)<inv.length:=by omega
  simp+decide[int,invD,H]
def jn(l:List (List ByteArray)):List ByteArray:=l.flatten
def zd0(l:List Int)(n:Int):Nat:=(l.takeWhile λx=>decide (x<n)).length
def putL(l:List Int)(n:Int):List Int:=l.take (zd0 l n)++[n]++(if l[zd0 l n]?=some n then l.drop (zd0 l n+1) else l.drop (zd0 l n))
theorem zyd{l:List Int}{n:Int}{k:Nat}(H:k<=l.length)(G:∀ x∈l.take k,x<n)(h2:∀ h:k<l.length,¬l[k]<n):zd0 l n=k:=by
 unfold zd0
 have e:l=l.take k++l.drop k:=(List.take_append_drop k l).symm
 have F:(l.takeWhile λx=>decide (x<n))=l.take k:=by
  conv=>lhs;rw[e]
  rw[List.takeWhile_append_of_pos (by intro a E;simpa using G a E)]
  by_cases K:k<l.length
  .rw[List.drop_eq_getElem_cons K,List.takeWhile_cons_of_neg (by simpa using h2 K),List.append_nil]
  .rw[List.drop_eq_nil_of_le (by omega)];simp
 rw[F,List.length_take];omega
theorem z8u(l:List Int)(n:Int)(K:l.length<2^40):zan Tryz.prog 230 [ints l,int n] (ints (putL l n)):=by
 refine zbp mixed Tryz.func230 rfl c_230 [1] ?_
 simp+decide[Tryz.f230,int,ints]
 refine zae mixed (λk:Nat=>{n:=51,next:=2,slots:=[(0,.d (ints l)),(1,.d (int n)),(5,.ar 1),(6,.d (int k))],own:=[(1,.arr 3 1 ((l.take k).map λx=>[int x]))],moved:=[1]})
  (λk=>k<=l.length/\∀ x∈l.take k,x<n) (λk=>l.length-k) 0 (by simp) (by simp+decide[int,ints]) ?_
 rintro k ⟨J,L⟩
 have E:(l.take k).length=k:=by rw[List.length_take];omega
 by_cases H:k<l.length
 .have G:(k:Int)<l.length:=by omega
  have em:l[k]?=some l[k]:=List.getElem?_eq_getElem H
  by_cases M:l[k]<n
  .simp+decide[int,ints,H,G,em,M,I64]
   refine⟨by omega,by unfold maxLen;omega,⟨by omega,by omega⟩,k+1,⟨H,λx F=>?_⟩,by omega,by omega,?_⟩
   .rw[zao H] at F
    rcases List.mem_append.1 F with h | h
    .exact L x h
    .rw[List.mem_singleton] at h;rw[h];exact M
   .rw[zao (by rw[List.length_map];exact H),List.getElem_map]
  .have O:putL l n=l.take k++[n]++(if l[k]?=some n then l.drop (k+1) else l.drop k):=by
    unfold putL;rw[zyd J L λ_=>M]
   rw[O,em];by_cases Q:l[k]=n
   .rw[if_pos (by rw[Q])]
    simp+decide[int,ints,H,G,em,M,Q,I64];refine⟨by omega,by unfold maxLen;omega,⟨by omega,by omega⟩,⟨by omega,by omega⟩,λr T=>?_,by omega,by unfold maxLen;omega,?_⟩
    .have:=List.mem_of_mem_take (List.mem_of_mem_drop T)
     rw[List.mem_map] at this;obtain⟨z,_,rfl⟩:=this;rfl
    .rw[List.take_of_length_le (by simp)]
   .rw[if_neg (by simpa using Q)]
    simp+decide[int,ints,H,G,em,M,Q,I64];refine⟨by omega,by unfold maxLen;omega,by omega,λr T=>?_,by omega,by unfold maxLen;omega,?_⟩
    .have:=List.mem_of_mem_take (List.mem_of_mem_drop T)
     rw[List.mem_map] at this;obtain⟨z,_,rfl⟩:=this;rfl
    .rw[List.take_of_length_le (by simp)]
 .have:k=l.length:=by omega
  subst this;have O:putL l n=l.take l.length++[n]++[]:=by
   unfold putL;rw[zyd J L λh=>absurd h (by omega)]
   simp
  rw[O];simp+decide[int,ints,I64];exact⟨by omega,by unfold maxLen;omega,by omega,by unfold maxLen;omega⟩
theorem yi6(l:List Int)(n:Int):zd0 l n<=l.length:=(List.takeWhile_sublist _).length_le
theorem z0w{p:Int->Bool}:∀ {l:List Int} {x:Int},x∈l.takeWhile p->p x=true
 | [],x,h=>by cases h
 |a::r,x,h=>by
  by_cases e:p a=true
  .rw[List.takeWhile_cons_of_pos e] at h
   rcases List.mem_cons.1 h with rfl | h
   .exact e
   .exact z0w h
  .rw[List.takeWhile_cons_of_neg e] at h;cases h
theorem zwa(l:List Int)(n:Int):∀ x∈l.take (zd0 l n),x<n:=by
 intro x H
 have:l.take (zd0 l n)=l.takeWhile λx=>decide (x<n):=by
  unfold zd0;have:=List.takeWhile_prefix (l:=l) λx=>decide (x<n)
  exact(List.prefix_iff_eq_take.1 this).symm
 rw[this] at H
 simpa using z0w H
theorem zwb{l:List Int}{n:Int}(h:zd0 l n<l.length):¬l[zd0 l n]<n:=by
 intro H
 have e1:(l.takeWhile λx=>decide (x<n))++(l.dropWhile λx=>decide (x<n))=l:=List.takeWhile_append_dropWhile
 cases G:l.dropWhile λx=>decide (x<n) with
 |nil=>
  rw[G,List.append_nil] at e1;have:zd0 l n=l.length:=by unfold zd0;rw[e1]
  omega
 |cons y r=>
  have F:=List.head_dropWhile_not (λx=>decide (x<n)) (by rw[G];simp:l.dropWhile (λx=>decide (x<n))≠[])
  simp only[G,List.head_cons,decide_eq_false_iff_not] at F;have e0:∀ A B:List Int,B=y::r->(A++B)[A.length]?=some y:=by
   intro A B h;rw[h,List.getElem?_append_right (Nat.le_refl _),Nat.sub_self];rfl
  have e3:=e0 (l.takeWhile λx=>decide (x<n)) _ G
  rw[e1] at e3;change l[zd0 l n]?=some y at e3
  rw[List.getElem?_eq_getElem h] at e3;have:=Option.some.inj e3
  rw[this] at H;exact F H
theorem z0x{l:List Int}(hs:l.Pairwise λx y=>x<y)(n:Int):∀ x,x∈(if l[zd0 l n]?=some n then l.drop (zd0 l n+1) else l.drop (zd0 l n))↔x∈l/\n<x:=by
 intro x
 have K:=List.pairwise_iff_getElem.1 hs
 have H:x∈l->n<x->x∈l.drop (zd0 l n):=λL M=>by
  have F:=L;rw[<-List.take_append_drop (zd0 l n) l] at F;rcases List.mem_append.1 F with h | h
  .have:=zwa l n x h;omega
  .exact h
 by_cases G:zd0 l n<l.length
 .have J:=zwb G
  have E:∀ y∈l.drop (zd0 l n+1),l[zd0 l n]<y:=λy O=>by
   obtain⟨i,hi,rfl⟩:=List.mem_iff_getElem.1 O;rw[List.length_drop] at hi;rw[List.getElem_drop];exact K _ _ G (by omega) (by omega)
  rw[List.getElem?_eq_getElem G];by_cases e:l[zd0 l n]=n
  .rw[if_pos (by rw[e])]
   constructor
   .intro L
    have:=E x L
    exact⟨List.mem_of_mem_drop L,by omega⟩
   .rintro⟨L,M⟩
    have:=H L M
    rw[List.drop_eq_getElem_cons G] at this;rcases List.mem_cons.1 this with h | h
    .omega
    .exact h
  .rw[if_neg (by simpa using e)]
   constructor
   .intro L
    refine⟨List.mem_of_mem_drop L,?_⟩
    rw[List.drop_eq_getElem_cons G] at L;rcases List.mem_cons.1 L with h | h
    .omega
    .have:=E x h;omega
   .rintro⟨L,M⟩;exact H L M
 .have Q:l.drop (zd0 l n)=[]:=List.drop_eq_nil_of_le (by omega)
  rw[List.getElem?_eq_none (by omega),if_neg (by simp),Q]
  constructor
  .intro h;cases h
  .rintro⟨L,M⟩
   have:=H L M
   rwa [Q] at this
theorem yi7{l:List Int}(hs:l.Pairwise λx y=>x<y){n x:Int}:x∈putL l n↔x=n\/x∈l:=by
 unfold putL
 rw[List.mem_append,List.mem_append,List.mem_singleton,z0x hs]
 constructor
 .rintro((h | h) | h)
  .exact .inr (List.mem_of_mem_take h)
  .exact .inl h
  .exact .inr h.1
 .rintro(h | h)
  .exact .inl (.inr h)
  .rcases Int.lt_trichotomy x n with q | q | q
   .have F:=h
    rw[<-List.take_append_drop (zd0 l n) l] at F;rcases List.mem_append.1 F with h2 | h2
    .exact .inl (.inl h2)
    .exfalso
     have H:=List.pairwise_iff_getElem.1 hs;obtain⟨i,hi,rfl⟩:=List.mem_iff_getElem.1 h2;rw[List.length_drop] at hi;rw[List.getElem_drop] at q;have G:=zwb (l:=l) (n:=n) (by omega)
     rcases Nat.eq_zero_or_pos i with rfl | hi0
     .exact G q
     .have:=H (zd0 l n) (zd0 l n+i) (by omega) (by omega) (by omega)
      omega
   .exact .inl (.inr q)
   .exact .inr ⟨h,q⟩
theorem z4s{l:List Int}(hs:l.Pairwise λx y=>x<y)(n:Int):(putL l n).Pairwise λx y=>x<y:=by
 unfold putL
 rw[List.pairwise_append,List.pairwise_append]
 have H:=zwa l n
 have G:=λx=>(z0x hs n x).1
 refine⟨⟨hs.sublist (List.take_sublist _ _),by simp,λa F b E=>?_⟩,?_,λa F b E=>?_⟩
 .rw[List.mem_singleton] at E;rw[E];exact H a F
 .split
  .exact hs.sublist (List.drop_sublist _ _)
  .exact hs.sublist (List.drop_sublist _ _)
 .have K:=(G b E).2
  rcases List.mem_append.1 F with h | h
  .have:=H a h;omega
  .rw[List.mem_singleton] at h;omega
def sortL(l:List Int):List Int:=l.foldl putL []
theorem zwc(l:List Int)(n:Int):sortL (l++[n])=putL (sortL l) n:=by unfold sortL;rw[List.foldl_append];rfl
theorem yi8{l:List Int}(hs:l.Pairwise λx y=>x<y)(n:Int):(putL l n).length=l.length+(if n∈l then 0 else 1):=by
 have F:=yi6 l n
 have H:n∈l↔l[zd0 l n]?=some n:=by
  constructor
  .intro E
   obtain⟨k,K,ek⟩:=List.mem_iff_getElem.1 E;have G:=List.pairwise_iff_getElem.1 hs;have:zd0 l n=k:=by
    refine zyd (Nat.le_of_lt K) (λx J=>?_) (λh=>by rw[ek];omega)
    obtain⟨i,hi,rfl⟩:=List.mem_iff_getElem.1 J;rw[List.length_take] at hi;rw[List.getElem_take,<-ek];exact G i k (by omega) K (by omega)
   rw[this,List.getElem?_eq_getElem K,ek]
  .intro h;exact List.mem_of_getElem? h
 unfold putL
 by_cases h:l[zd0 l n]?=some n
 .rw[if_pos h,if_pos (H.2 h)]
  have:zd0 l n<l.length:=by
   rcases Nat.lt_or_ge (zd0 l n) l.length with L | L
   .exact L
   .rw[List.getElem?_eq_none L] at h;cases h
  simp;omega
 .rw[if_neg h,if_neg (λL=>h (H.1 L))]
  simp;omega
theorem zml:∀ (m:Nat) (l:List Int),l.length=m->(sortL l).Pairwise (λx y=>x<y)/\(∀ x,x∈sortL l↔x∈l)/\(sortL l).length<=l.length/\((sortL l).length=l.length->l.Nodup)
 |0,l,h=>by
  have:l=[]:=List.length_eq_zero_iff.mp h
  subst this;exact⟨List.Pairwise.nil,λx=>Iff.rfl,Nat.le_refl _,λ_=>List.nodup_nil⟩
 |m+1,l,h=>by
  have H:l≠[]:=by intro e;subst e;cases h
  obtain⟨a,n,rfl⟩:∃ a n,l=a++[n]:=⟨l.dropLast,l.getLast H,(List.dropLast_concat_getLast H).symm⟩;have G:a.length=m:=by simpa using h
  obtain⟨F,h2,E,K⟩:=zml m a G;rw[zwc];have J:=yi8 F n;refine⟨z4s F n,λx=>?_,?_,λhe=>?_⟩
  .rw[yi7 F,h2,List.mem_append,List.mem_singleton]
   exact Or.comm
  .rw[J,List.length_append];split <;> simp <;> omega
  .rw[J,List.length_append] at he
   simp only[List.length_singleton] at he;by_cases L:n∈sortL a
   .rw[if_pos L] at he;omega
   .rw[if_neg L] at he
    rw[List.nodup_append];refine⟨K (by omega),by simp,λx M y hy=>?_⟩
    rw[List.mem_singleton] at hy;subst hy;intro e;subst e;exact L ((h2 x).2 M)
theorem z4t{l:List Int}(h:(sortL l).length=l.length):l.Nodup:=(zml _ l rfl).2.2.2 h
theorem yey(l:List Int):(sortL l).length<=l.length:=(zml _ l rfl).2.2.1
theorem zsu(l:List Int)(E:l.length<2^40):zan Tryz.prog 198 [ints l] (ints (sortL l)):=by
 refine zab mixed Tryz.func198 rfl c_198 ?_
 simp+decide[Tryz.f198,int,ints]
 refine zp2 [1] ?_
 refine zae mixed (λk:Nat=>{n:=18,next:=2,slots:=[(0,.d (ints l)),(3,.d (ints (sortL (l.take k)))),(6,.d (int l.length)),(7,.d (int k))],own:=[],moved:=[]})
  (λk=>k<=l.length) (λk=>l.length-k) 0 (by simp) (by simp+decide[int,ints,sortL]) ?_
 intro k K
 by_cases H:k<l.length
 case neg=>
  have:k=l.length:=by omega
  subst this;rw[List.take_length];simp+decide[int,ints]
 have G:(k:Int)<l.length:=by omega
 have hsn:sortL (l.take (k+1))=putL (sortL (l.take k)) l[k]:=by rw[zao H,zwc]
 have F:=yey (l.take k)
 rw[List.length_take] at F
 obtain⟨n,en⟩:∃ n,l[k]=n:=⟨_,rfl⟩
 have e1:l[k]?=some n:=by rw[List.getElem?_eq_getElem H,en]
 rw[en] at hsn
 have J:=z8u (sortL (l.take k)) n (by omega)
 rw[<-hsn] at J
 simp+decide[int,ints,H,G,e1,en]
 refine zai.pure (by rfl) J (by simp[int,ints]) ?_
 simp+decide[int,ints]
 exact⟨⟨by omega,by omega⟩,k+1,H,by omega,rfl,by omega⟩
def zlu(inv:List Phon)(r:Rule)(k:Nat):Bool:=!(zgj inv (r.src[k]?.getD 0)) || (decide (r.dst[k]?.getD 0≠0) && !(zgj inv (r.dst[k]?.getD 0)))
def z0y(inv:List Phon)(r:Rule):Int:=
 if r.src.length=0\/r.dst.length≠r.src.length then 1 else if ((List.range r.src.length).any λk=>zlu inv r k)=true then 19
 else if (sortL r.src).length≠r.src.length then 8 else if 2<r.left.length\/2<r.right.length then 5 else 0
theorem ya2(inv:List Phon)(r:Rule)(hs:r.src.length<=1048576)(Y:r.dst.length<=1048576):zan Tryz.prog 147 [.agg [invD inv],.agg r.row] (int (z0y inv r)):=by
 obtain⟨src,dst,left,right,beg,fin⟩:=r
 simp only at hs Y
 have Z:=zsu src (by omega)
 refine zab mixed Tryz.func147 rfl c_147 ?_
 obtain⟨R,A⟩:∃ R,z0y inv ⟨src,dst,left,right,beg,fin⟩=R:=⟨_,rfl⟩
 rw[A]
 unfold z0y at A
 simp only at A
 by_cases B:src.length=0
 .have:R=1:=by rw[<-A,if_pos (.inl B)]
  subst this;have L:(src.length:Int)=0:=by omega
  simp+decide[Tryz.f147,int,ints,Rule.row,B,L];done
 have L:¬(src.length:Int)=0:=by omega
 by_cases C:dst.length=src.length
 case neg=>
  have:R=1:=by rw[<-A,if_pos (.inr C)]
  subst this;have O:¬(dst.length:Int)=src.length:=by omega
  simp+decide[Tryz.f147,int,ints,Rule.row,B,L,C,O];done
 have O:(dst.length:Int)=src.length:=by omega
 rw[if_neg (by rintro(h | h);exact B h;exact h C)] at A
 simp+decide[Tryz.f147,int,ints,Rule.row,B,L,C,O]
 refine zae mixed (λk:Nat=>{n:=70,next:=2,slots:=[(2,.bp 0 0),(3,.bp 1 0),(21,.d (int src.length)),(22,.d (int k))],own:=[(0,.box 24 [.d (invD inv)]),(1,.box 90 [.d (ints src),.d (ints dst),.d (clsD left),.d (clsD right),.d (.bool beg),.d (.bool fin)])]})
  (λk=>k<=src.length/\∀ j,j<k->zlu inv ⟨src,dst,left,right,beg,fin⟩ j=false) (λk=>src.length-k) 0 (by simp) (by simp+decide[int,ints]) ?_
 intro k ⟨I,N⟩
 by_cases F:k<src.length
 .have E:(k:Int)<src.length:=by omega
  have Q:k<dst.length:=by omega
  have K:(k:Int)<dst.length:=by omega
  obtain⟨x,ex⟩:∃ x,src[k]=x:=⟨_,rfl⟩;obtain⟨y,ey⟩:∃ y,dst[k]=y:=⟨_,rfl⟩;have ex1:src[k]?=some x:=by rw[List.getElem?_eq_getElem F,ex]
  have ey1:dst[k]?=some y:=by rw[List.getElem?_eq_getElem Q,ey]
  have P:=zr0 inv x;have S:=zr0 inv y;have X:zlu inv ⟨src,dst,left,right,beg,fin⟩ k=(!(zgj inv x) || (decide (y≠0) && !(zgj inv y))):=by unfold zlu;simp only;rw[ex1,ey1];rfl
  have G:zlu inv ⟨src,dst,left,right,beg,fin⟩ k=true->R=19:=by
   intro h;rw[<-A,if_pos (List.any_eq_true.2 ⟨k,List.mem_range.2 F,h⟩)]
  have H:zlu inv ⟨src,dst,left,right,beg,fin⟩ k=false->∀ j,j<k+1->zlu inv ⟨src,dst,left,right,beg,fin⟩ j=false:=by
   intro h j W;rcases Nat.lt_succ_iff_lt_or_eq.mp W with h' | h'
   .exact N j h'
   .rw[h'];exact h
  rw[X] at G H;simp+decide[int,ints,F,E,ex,ex1];refine zaa (by rfl) (by rfl) P (by simp[int]) ?_
  cases hx:zgj inv x with
  |false=>
   rw[hx] at G;have:=G rfl
   subst this;simp+decide[int]
  |true=>
   rw[hx] at G H;by_cases hy:y=0
   .rw[decide_eq_false (by simpa using hy)] at H
    have hg:=H rfl;simp+decide[int,ints,F,E,Q,K,ex,ex1,ey,ey1,hy,I64];exact⟨⟨by omega,by omega⟩,k+1,⟨F,hg⟩,by omega,by omega⟩
   .rw[decide_eq_true (by simpa using hy)] at H G
    simp+decide[int,ints,F,E,Q,K,ex,ex1,ey,ey1,hy,I64];refine zaa (by rfl) (by rfl) S (by simp[int]) ?_
    cases hz:zgj inv y with
    |false=>
     rw[hz] at G;have:=G rfl
     subst this;simp+decide[int]
    |true=>
     rw[hz] at H;have hg:=H rfl;simp+decide[int,I64];exact⟨⟨by omega,by omega⟩,k+1,⟨F,hg⟩,by omega,by omega⟩
 .have:k=src.length:=by omega
  subst this;have T:((List.range src.length).any λk=>zlu inv ⟨src,dst,left,right,beg,fin⟩ k)=false:=by
   rw[List.any_eq_false];intro j W;rw[N j (List.mem_range.1 W)];decide
  rw[if_neg (by rw[T];decide)] at A
  simp+decide[int,ints];refine zaa (by rfl) (by rfl) Z (by simp[int,ints]) ?_
  by_cases hn:(sortL src).length=src.length
  .have J:((sortL src).length:Int)=src.length:=by omega
   rw[if_neg (by simpa using hn)] at A
   by_cases hl:2<left.length
   .have M:(2:Int)<left.length:=by omega
    rw[if_pos (.inl hl)] at A;subst A;simp+decide[int,ints,clsD,hn,J,hl,M]
   .have M:¬(2:Int)<left.length:=by omega
    by_cases hr:2<right.length
    .have V:(2:Int)<right.length:=by omega
     rw[if_pos (.inr hr)] at A;subst A;simp+decide[int,ints,clsD,hn,J,hl,M,hr,V]
    .have V:¬(2:Int)<right.length:=by omega
     rw[if_neg (by rintro(h | h);exact hl h;exact hr h)] at A
     subst A;simp+decide[int,ints,clsD,hn,J,hl,M,hr,V]
  .have J:¬((sortL src).length:Int)=src.length:=by omega
   rw[if_pos (by simpa using hn)] at A
   subst A;simp+decide[int,ints,clsD,hn,J]
theorem ya3{inv:List Phon}{r:Rule}(h:z0y inv r=0)(hs:r.src.length<=1048576):RuleL r:=by
 unfold z0y at h
 split at h
 .cases h
 rename_i F
 split at h
 .cases h
 split at h
 .cases h
 rename_i E
 split at h
 .cases h
 rename_i K
 have H:r.dst.length=r.src.length:=Classical.byContradiction λe=>F (.inr e)
 have G:(sortL r.src).length=r.src.length:=Classical.byContradiction λe=>E e
 exact {src:=by omega,left:=by omega,right:=by omega,dst:=H,once:=z4t G }
def DstF(inv:List Phon)(r:Rule):Prop:=∀ x∈r.dst,x=0\/zgj inv x=true
theorem yez{inv:List Phon}{r:Rule}(h:z0y inv r=0):DstF inv r:=by
 unfold z0y at h
 split at h
 .cases h
 rename_i G
 split at h
 .cases h
 rename_i h2
 have H:r.dst.length=r.src.length:=Classical.byContradiction λe=>G (.inr e)
 intro x F
 obtain⟨k,E,ek⟩:=List.mem_iff_getElem.1 F
 have K:((List.range r.src.length).any λk=>zlu inv r k)=false:=by simpa using h2
 rw[List.any_eq_false] at K
 have J:=K k (List.mem_range.2 (by omega))
 unfold zlu at J
 rw[List.getElem?_eq_getElem E,ek,Option.getD_some] at J
 by_cases L:x=0
 .exact .inl L
 .right
  cases hs:zgj inv x with
  |true=>rfl
  |false=>rw[hs] at J;simp[L] at J
structure RulesC(rs:List Rule):Prop where
 few:rs.length<=1048576
 each:∀ r∈rs,r.src.length<=1048576/\r.dst.length<=1048576
theorem ya4(g:Lang)(E:RulesC g.rules):zf7 Tryz.prog 88 [g.d] (λx=>∃ e,x=int e/\(e=0->∀ r∈g.rules,RuleL r/\DstF g.inv r)):=by
 have F:=E.few
 refine za3 mixed Tryz.func88 rfl c_88 ?_
 by_cases K:(12:Int)<g.rules.length
 .simp+decide[Tryz.f88,Lang.d,int,zco,K]
 simp+decide[Tryz.f88,Lang.d,int,zco,K]
 refine zae mixed (λk:Nat=>{n:=27,next:=1,slots:=[(1,.bp 0 0),(3,.d (int k))],own:=[(0,.box 36 (zaz g.d))]})
  (λk=>k<=g.rules.length/\∀ r∈g.rules.take k,RuleL r/\DstF g.inv r) (λk=>g.rules.length-k) 0 (by simp) (by simp+decide[int,zco,zaz,Lang.d]) ?_
 intro k ⟨J,L⟩
 by_cases H:k<g.rules.length
 .have G:(k:Int)<g.rules.length:=by omega
  have M:=E.each g.rules[k] (List.getElem_mem H);obtain⟨r,er⟩:∃ r,g.rules[k]=r:=⟨_,rfl⟩;have er1:g.rules[k]?=some r:=by rw[List.getElem?_eq_getElem H,er]
  have hsn:=zao H;rw[er] at M hsn;have O:=ya2 g.inv r M.1 M.2;simp+decide[int,zco,zaz,Lang.d,H,G,er,er1,Rule.row];refine zaa (by rfl) (by rfl) O (by simp[int,Rule.row]) ?_
  by_cases Q:z0y g.inv r=0
  .rw[Q]
   simp+decide[int,I64,zaz,Lang.d,zco];refine⟨⟨by omega,by omega⟩,k+1,⟨H,λx T=>?_⟩,by omega,by omega⟩
   rw[hsn] at T;rcases List.mem_append.1 T with h | h
   .exact L x h
   .rw[List.mem_singleton] at h;rw[h];exact⟨ya3 Q M.1,yez Q⟩
  .simp+decide[int,Q]
 .have:k=g.rules.length:=by omega
  subst this;rw[List.take_length] at L;simp+decide[int,zco,zaz,Lang.d];exact L
theorem zpc(n:Nett)(q:Int):zan Tryz.prog 148 [.agg n.cells,int q] (.bool (decide (0<=q/\q<n.states))):=by
 refine zab mixed Tryz.func148 rfl c_148 ?_
 by_cases H:0<=q
 .simp+decide[Tryz.f148,int,Nett.cells,H]
 .simp+decide[Tryz.f148,int,Nett.cells,H]
def yn8(n:Nett)(s:Stp):Prop:=(0<=s.src/\s.src<n.states)/\(0<=s.dst/\s.dst<n.states)/\1<=s.cls/\s.cls<=20
structure NetF(n:Nett):Prop where
 lo:1<=n.states
 steps:∀ s∈n.steps,yn8 n s
 final:∀ q∈n.final,0<=q/\q<n.states
theorem ya5(n:Nett)(hs:n.steps.length<=1048576)(Y:n.final.length<=1048576):zf7 Tryz.prog 89 [.agg n.cells] (λx=>∃ e,x=int e/\(e=0->NetF n)):=by
 refine za3 mixed Tryz.func89 rfl c_89 ?_
 by_cases Z:n.states<1
 .simp+decide[Tryz.f89,int,Nett.cells,Z]
 by_cases A:24<n.states
 .simp+decide[Tryz.f89,int,Nett.cells,Z,A]
 by_cases h2:(200:Int)<n.steps.length
 .simp+decide[Tryz.f89,int,Nett.cells,stepsD,Z,A,h2]
 simp+decide[Tryz.f89,int,Nett.cells,stepsD,Z,A,h2]
 refine zae mixed (λk:Nat=>{n:=98,next:=1,slots:=[(1,.bp 0 0),(3,.d (int k))],own:=[(0,.box 33 (n.cells.map .d))]})
  (λk=>k<=n.steps.length/\∀ s∈n.steps.take k,yn8 n s) (λk=>n.steps.length-k) 0 (by simp) (by simp+decide[int,ints,stepsD,Nett.cells]) ?_
 intro k ⟨B,C⟩
 by_cases E:k<n.steps.length
 .have J:(k:Int)<n.steps.length:=by omega
  obtain⟨x,ex⟩:∃ x,n.steps[k]=x:=⟨_,rfl⟩;have ex1:n.steps[k]?=some x:=by rw[List.getElem?_eq_getElem E,ex]
  have hsn:=zao E;rw[ex] at hsn;have I:=zpc n x.src;have N:=zpc n x.dst;simp+decide[int,ints,stepsD,Nett.cells,E,J,ex,ex1,Stp.row];refine zai.pure (by rfl) I (by simp[int]) ?_
  by_cases a1:0<=x.src/\x.src<n.states
  case neg=>simp+decide[int,a1]
  simp+decide[int,ints,stepsD,a1];refine zai.pure (by rfl) N (by simp[int]) ?_
  by_cases a2:0<=x.dst/\x.dst<n.states
  case neg=>simp+decide[int,a2]
  by_cases a3:x.cls<1
  .simp+decide[int,a2,a3]
  by_cases a4:20<x.cls
  .simp+decide[int,a2,a3,a4]
  simp+decide[int,ints,stepsD,Nett.cells,a2,a3,a4];refine zae mixed (λm:Nat=>{n:=98,next:=2,slots:=[(1,.bp 0 0),(3,.d (int k)),(4,.bp 1 0),(5,.d (int m))],own:=[(0,.box 33 (n.cells.map .d)),(1,.box 156 (x.row.map .d))]})
   (λm=>m<=k) (λm=>k-m) 0 (by simp) (by simp+decide[int,ints,stepsD,Nett.cells,Stp.row]) ?_
  intro m P;by_cases T:m<k
  .have G:(m:Int)<k:=by omega
   have V:m<n.steps.length:=by omega
   have L:(m:Int)<n.steps.length:=by omega
   obtain⟨y,ey⟩:∃ y,n.steps[m]=y:=⟨_,rfl⟩;have ey1:n.steps[m]?=some y:=by rw[List.getElem?_eq_getElem V,ey]
   simp+decide[int,ints,stepsD,Nett.cells,T,G,V,L,ey,ey1,Stp.row,I64];exact λ_=>⟨⟨by omega,by omega⟩,m+1,T,by omega,by omega⟩
  .have G:¬(m:Int)<k:=by omega
   simp+decide[int,ints,stepsD,Nett.cells,G,I64];refine⟨⟨by omega,by omega⟩,k+1,⟨E,λs X=>?_⟩,by omega,by omega⟩
   rw[hsn] at X;rcases List.mem_append.1 X with h | h
   .exact C s h
   .rw[List.mem_singleton] at h;rw[h];exact⟨a1,a2,by omega,by omega⟩
 .have:k=n.steps.length:=by omega
  subst this;rw[List.take_length] at C;simp+decide[int,ints,stepsD,Nett.cells];refine zae mixed (λk:Nat=>{n:=98,next:=1,slots:=[(1,.bp 0 0),(6,.d (int ((k:Int)+1)))],own:=[(0,.box 33 (n.cells.map .d))]})
   (λk=>k<=n.final.length) (λk=>n.final.length-k) 0 (by simp) (by simp+decide[int,ints,stepsD,Nett.cells]) ?_
  intro i hi;by_cases M:i+1<n.final.length
  .have H:(i:Int)+1<n.final.length:=by omega
   have O:i<n.final.length:=by omega
   have F:(i:Int)<n.final.length:=by omega
   obtain⟨u,eu⟩:∃ u,n.final[i+1]=u:=⟨_,rfl⟩;have eu1:n.final[i+1]?=some u:=by rw[List.getElem?_eq_getElem M,eu]
   obtain⟨v,ev⟩:∃ v,n.final[i]=v:=⟨_,rfl⟩;have ev1:n.final[i]?=some v:=by rw[List.getElem?_eq_getElem O,ev]
   have t1:((i:Int)+1).toNat=i+1:=by omega
   have t2:0<=(i:Int)+1:=by omega
   by_cases b1:u<=v
   .simp+decide[int,ints,stepsD,Nett.cells,M,H,O,F,eu,eu1,ev,ev1,t1,t2,b1,I64]
    omega
   .simp+decide[int,ints,stepsD,Nett.cells,M,H,O,F,eu,eu1,ev,ev1,t1,t2,b1,I64]
    exact⟨by omega,⟨by omega,by omega⟩,i+1,by omega,by omega,by omega⟩
  .have H:¬(i:Int)+1<n.final.length:=by omega
   simp+decide[int,ints,stepsD,Nett.cells,H];refine zae mixed (λk:Nat=>{n:=98,next:=1,slots:=[(1,.bp 0 0),(7,.d (int k))],own:=[(0,.box 33 (n.cells.map .d))]})
    (λk=>k<=n.final.length/\∀ q∈n.final.take k,0<=q/\q<n.states) (λk=>n.final.length-k) 0 (by simp) (by simp+decide[int,ints,stepsD,Nett.cells]) ?_
   intro j ⟨S,W⟩;by_cases K:j<n.final.length
   .have Q:(j:Int)<n.final.length:=by omega
    obtain⟨u,eu⟩:∃ u,n.final[j]=u:=⟨_,rfl⟩;have eu1:n.final[j]?=some u:=by rw[List.getElem?_eq_getElem K,eu]
    have hsn:=zao K;rw[eu] at hsn;have hC:=zpc n u;simp+decide[int,ints,stepsD,Nett.cells,K,Q,eu,eu1];refine zaa (by rfl) (by rfl) hC (by simp[int,ints,stepsD,Nett.cells]) ?_
    by_cases a1:0<=u/\u<n.states
    .simp+decide[int,a1,I64,ints,stepsD,Nett.cells]
     refine⟨⟨by omega,by omega⟩,j+1,⟨K,λq P=>?_⟩,by omega,by omega⟩
     rw[hsn] at P;rcases List.mem_append.1 P with h | h
     .exact W q h
     .rw[List.mem_singleton] at h;rw[h];exact a1
    .simp+decide[int,a1]
   .have:j=n.final.length:=by omega
    subst this;rw[List.take_length] at W;simp+decide[int,ints,stepsD,Nett.cells];exact⟨by omega,C,W⟩
def zjg(n:Int):Bool:=decide (1<=n/\n<=1099511627776)
theorem zh3(n:Int):zan Tryz.prog 117 [int n] (.bool (zjg n)):=by
 refine zab mixed Tryz.func117 rfl c_117 ?_
 by_cases H:1<=n
 .simp+decide[Tryz.f117,int,zjg,H]
 .simp+decide[Tryz.f117,int,zjg,H]
def z4u(inv:List Phon)(w:List Int):Int:=if w.length=0 then 4 else if 24<w.length then 5 else if (w.all λx=>zgj inv x)=true then 0 else 19
theorem z0z(inv:List Phon)(w:List Int)(J:w.length<=1048576):zan Tryz.prog 231 [.agg [invD inv],ints w] (int (z4u inv w)):=by
 refine zab mixed Tryz.func231 rfl c_231 ?_
 obtain⟨R,L⟩:∃ R,z4u inv w=R:=⟨_,rfl⟩
 rw[L]
 unfold z4u at L
 by_cases M:w.length=0
 .rw[if_pos M] at L
  subst L;have F:(w.length:Int)=0:=by omega
  simp+decide[Tryz.f231,int,ints,M,F];done
 rw[if_neg M] at L
 have F:¬(w.length:Int)=0:=by omega
 by_cases O:24<w.length
 .rw[if_pos O] at L
  subst L;have E:(24:Int)<w.length:=by omega
  simp+decide[Tryz.f231,int,ints,M,F,O,E];done
 rw[if_neg O] at L
 have E:¬(24:Int)<w.length:=by omega
 simp+decide[Tryz.f231,int,ints,M,F,O,E]
 refine zae mixed (λk:Nat=>{n:=25,next:=1,slots:=[(1,.d (ints w)),(2,.bp 0 0),(13,.d (int w.length)),(14,.d (int k))],own:=[(0,.box 24 [.d (invD inv)])]})
  (λk=>k<=w.length/\∀ x∈w.take k,zgj inv x=true) (λk=>w.length-k) 0 (by simp) (by simp+decide[int,ints]) ?_
 intro k ⟨Q,T⟩
 by_cases H:k<w.length
 .have K:(k:Int)<w.length:=by omega
  have G:=List.getElem_mem H;obtain⟨x,ex⟩:∃ x,w[k]=x:=⟨_,rfl⟩;have ex1:w[k]?=some x:=by rw[List.getElem?_eq_getElem H,ex]
  have hsn:=zao H;rw[ex] at hsn G;simp+decide[int,ints,H,K,ex,ex1];refine zaa (by rfl) (by rfl) (zr0 inv x) (by simp[int]) ?_
  cases hs:zgj inv x with
  |false=>
   have:¬(w.all λx=>zgj inv x)=true:=by
    rw[List.all_eq_true];intro h;rw[h x G] at hs;cases hs
   rw[if_neg this] at L;subst L;simp+decide[int]
  |true=>
   simp+decide[int];refine⟨⟨by omega,by omega⟩,k+1,⟨H,λy V=>?_⟩,by omega,by omega⟩
   rw[hsn] at V;rcases List.mem_append.1 V with h | h
   .exact T y h
   .rw[List.mem_singleton] at h;rw[h];exact hs
 .have:k=w.length:=by omega
  subst this;rw[List.take_length] at T;rw[if_pos (List.all_eq_true.2 T)] at L;subst L;simp+decide[int,ints]
structure WordF(inv:List Phon)(w:List Int):Prop where
 pos:1<=w.length
 len:w.length<=24
 segs:∀ x∈w,zgj inv x=true
theorem zwd{inv:List Phon}{w:List Int}(h:z4u inv w=0):WordF inv w:=by
 unfold z4u at h
 split at h
 .cases h
 split at h
 .cases h
 split at h
 .rename_i H;exact⟨by omega,by omega,List.all_eq_true.1 H⟩
 .cases h
structure EntC(e:Ent):Prop where
 form:e.form.length<=1048576
 alts:e.alts.length<=1048576/\∀ w∈e.alts,w.length<=1048576
 senses:e.senses.length<=1048576/\∀ s∈e.senses,s.gloss.size<=1048576/\s.defn.size<=1048576
 links:e.links.length<=1048576
 refs:e.refs.length<=1048576
structure WordsF(inv:List Phon)(e:Ent):Prop where
 id:zjg e.id=true
 form:WordF inv e.form
 cls:1<=e.cls/\e.cls<=20
 alts:∀ w∈e.alts,WordF inv w
theorem ya6(inv:List Phon)(e:Ent)(V:EntC e):zf7 Tryz.prog 199 [.agg [invD inv],.agg e.row] (λx=>∃ n,x=int n/\(n=0->WordsF inv e)):=by
 have O:=V.form
 have T:=V.alts.1
 refine za3 mixed Tryz.func199 rfl c_199 ?_
 simp+decide[Tryz.f199,int,Ent.row]
 refine zai.pure (by rfl) (zh3 e.id) (by simp[int]) ?_
 cases hid:zjg e.id with
 |false=>simp+decide[int]
 |true=>
  simp+decide[int];refine zai.pure (by rfl) (z0z inv e.form O) (by simp[int]) ?_
  by_cases X:z4u inv e.form=0
  case neg=>simp+decide[int,X]
  by_cases c1:e.cls<1
  .simp+decide[int,X,c1]
  by_cases c2:20<e.cls
  .simp+decide[int,X,c1,c2]
  by_cases c3:(3:Int)<e.alts.length
  .simp+decide[int,X,zcb,c1,c2,c3]
  simp+decide[int,X,zcb,c1,c2,c3];refine zae mixed (λk:Nat=>{n:=73,next:=2,slots:=[(2,.bp 0 0),(3,.bp 1 0),(6,.d (int k))],own:=[(0,.box 24 [.d (invD inv)]),(1,.box 102 (e.row.map .d))]})
   (λk=>k<=e.alts.length/\∀ w∈e.alts.take k,WordF inv w) (λk=>e.alts.length-k) 0 (by simp) (by simp+decide[int,ints,Ent.row,zcb]) ?_
  intro k ⟨Y,Z⟩;by_cases H:k<e.alts.length
  .have G:(k:Int)<e.alts.length:=by omega
   have J:=V.alts.2 e.alts[k] (List.getElem_mem H);obtain⟨w,ew⟩:∃ w,e.alts[k]=w:=⟨_,rfl⟩;have ew1:e.alts[k]?=some w:=by rw[List.getElem?_eq_getElem H,ew]
   have hsn:=zao H;rw[ew] at hsn J;simp+decide[int,ints,zcb,Ent.row,H,G,ew,ew1];refine zaa (by rfl) (by rfl) (z0z inv w J) (by simp[int,ints]) ?_
   by_cases A:z4u inv w=0
   case neg=>simp+decide[int,A]
   simp+decide[int,ints,zcb,Ent.row,A,H,G,ew,ew1];refine zaa (by rfl) (by rfl) (zj3 w e.form (by omega) (by omega)) (by simp[int,ints]) ?_
   by_cases hs:w=e.form
   .simp+decide[int,hs]
   simp+decide[int,ints,zcb,Ent.row,hs];refine zae mixed (λm:Nat=>{n:=73,next:=2,slots:=[(2,.bp 0 0),(3,.bp 1 0),(6,.d (int k)),(8,.d (int m))],own:=[(0,.box 24 [.d (invD inv)]),(1,.box 102 (e.row.map .d))]})
    (λm=>m<=k) (λm=>k-m) 0 (by simp) (by simp+decide[int,ints,Ent.row,zcb]) ?_
   intro m B;by_cases L:m<k
   .have F:(m:Int)<k:=by omega
    have E:m<e.alts.length:=by omega
    have K:(m:Int)<e.alts.length:=by omega
    have Q:=V.alts.2 e.alts[m] (List.getElem_mem E);obtain⟨y,ey⟩:∃ y,e.alts[m]=y:=⟨_,rfl⟩;have ey1:e.alts[m]?=some y:=by rw[List.getElem?_eq_getElem E,ey]
    rw[ey] at Q;simp+decide[int,ints,zcb,Ent.row,L,F,E,K,H,G,ew,ew1,ey,ey1];refine zaa (by rfl) (by rfl) (zj3 w y (by omega) (by omega)) (by simp[int,ints]) ?_
    by_cases M:w=y
    .simp+decide[int,M]
    .simp+decide[int,M,I64,ints,zcb,Ent.row]
     exact⟨⟨by omega,by omega⟩,m+1,L,by omega,by omega⟩
   .have F:¬(m:Int)<k:=by omega
    simp+decide[int,ints,zcb,Ent.row,F,I64];refine⟨⟨by omega,by omega⟩,k+1,⟨H,λy C=>?_⟩,by omega,by omega⟩
    rw[hsn] at C;rcases List.mem_append.1 C with h | h
    .exact Z y h
    .rw[List.mem_singleton] at h;rw[h];exact zwd A
  .have:k=e.alts.length:=by omega
   subst this;rw[List.take_length] at Z;simp+decide[int,ints,zcb,Ent.row];exact⟨hid,zwd X,⟨by omega,by omega⟩,Z⟩
def zg6(f:Nat->Bool)(s:ByteArray):Bool:=(List.range s.size).all λk=>f (zal s k)
theorem ziq{f:Nat->Bool}{s:ByteArray}{k:Nat}(H:k<s.size)(h:f (zal s k)=false):zg6 f s=false:=by
 unfold zg6;rw[List.all_eq_false];exact⟨k,List.mem_range.2 H,by rw[h];decide⟩
theorem zqk{f:Nat->Bool}{s:ByteArray}(h:∀ j,j<s.size->f (zal s j)=true):zg6 f s=true:=by
 unfold zg6;rw[List.all_eq_true];intro j H;exact h j (List.mem_range.1 H)
theorem z00{p:Nat->Prop}{k:Nat}(h:∀ j,j<k->p j)(H:p k):∀ j,j<k+1->p j:=by
 intro j G
 rcases Nat.lt_succ_iff_lt_or_eq.mp G with F | F
 .exact h j F
 .rw[F];exact H
def labB(b:Nat):Bool:=decide (¬b<32)&&decide (¬b=127)
def zlv(s:ByteArray):Bool:=zg6 labB s&&((zc8 s s.size 0).isSome&&decide (1<=s.size)&&decide (s.size<=32))
theorem zta(s:ByteArray)(hs:s.size<=1048576):zan Tryz.prog 142 [.str s] (.bool (zlv s)):=by
 refine zab mixed Tryz.func142 rfl c_142 ?_
 simp+decide[Tryz.f142,int]
 refine zae mixed (λk:Nat=>{n:=38,next:=0,slots:=[(0,.d (.str s)),(3,.d (int k))],own:=[]})
  (λk=>k<=s.size/\∀ j,j<k->labB (zal s j)=true) (λk=>s.size-k) 0 (by simp) (by simp+decide[int]) ?_
 intro k ⟨E,K⟩
 by_cases G:k<s.size
 .have H:(k:Int)<s.size:=by omega
  have e1:byteAt s (k:Int)=(zal s k:Int):=zb1 s k
  by_cases b1:(zal s k:Int)<32
  .have:zlv s=false:=by unfold zlv;rw[ziq G (by simp[labB];omega)];rfl
   rw[this];simp+decide[int,G,H,e1,b1]
  .by_cases b2:(zal s k:Int)=127
   .have:zlv s=false:=by unfold zlv;rw[ziq G (by simp[labB];omega)];rfl
    rw[this];simp+decide[int,G,H,e1,b1,b2]
   .have J:=z00 K (show labB (zal s k)=true by simp[labB];omega)
    simp+decide[int,G,H,e1,b1,b2,I64];exact⟨⟨by omega,by omega⟩,k+1,⟨G,J⟩,by omega,by omega⟩
 .have H:¬(k:Int)<s.size:=by omega
  have F:zg6 labB s=true:=zqk λj L=>K j (by omega)
  simp+decide[int,H];refine zai.pure (by rfl) (zfl s hs) (by simp) ?_
  unfold zlv;rw[F];cases K:zc8 s s.size 0 with
  |none=>simp+decide[ptsD,int]
  |some l=>
   by_cases c1:1<=s.size
   .have c1':(1:Int)<=s.size:=by omega
    simp+decide[ptsD,int,ints,c1,c1'];try omega
   .have c1':¬(1:Int)<=s.size:=by omega
    simp+decide[ptsD,int,ints,c1,c1']
def gloB(b:Nat):Bool:=decide (¬b=32)&&decide (¬b=45)
def zql(s:ByteArray):Bool:=zg6 gloB s&&zlv s
theorem z4v(s:ByteArray)(hs:s.size<=1048576):zan Tryz.prog 262 [.str s] (.bool (zql s)):=by
 refine zab mixed Tryz.func262 rfl c_262 ?_
 simp+decide[Tryz.f262,int]
 refine zae mixed (λk:Nat=>{n:=22,next:=0,slots:=[(0,.d (.str s)),(3,.d (int k))],own:=[]})
  (λk=>k<=s.size/\∀ j,j<k->gloB (zal s j)=true) (λk=>s.size-k) 0 (by simp) (by simp+decide[int]) ?_
 intro k ⟨E,K⟩
 by_cases G:k<s.size
 .have H:(k:Int)<s.size:=by omega
  have e1:byteAt s (k:Int)=(zal s k:Int):=zb1 s k
  by_cases b1:(zal s k:Int)=32
  .have:zql s=false:=by unfold zql;rw[ziq G (by simp[gloB];omega)];rfl
   rw[this];simp+decide[int,G,H,e1,b1]
  .by_cases b2:(zal s k:Int)=45
   .have:zql s=false:=by unfold zql;rw[ziq G (by simp[gloB];omega)];rfl
    rw[this];simp+decide[int,G,H,e1,b1,b2]
   .have J:=z00 K (show gloB (zal s k)=true by simp[gloB];omega)
    simp+decide[int,G,H,e1,b1,b2,I64];exact⟨⟨by omega,by omega⟩,k+1,⟨G,J⟩,by omega,by omega⟩
 .have H:¬(k:Int)<s.size:=by omega
  have F:zg6 gloB s=true:=zqk λj L=>K j (by omega)
  simp+decide[int,H];refine zai.pure (by rfl) (zta s hs) (by simp) ?_
  unfold zql;rw[F];simp+decide[int]
def badI(p:Int):Bool:=decide (p<32) || decide (p=127)
def ye0(s:ByteArray):Int:=if 200<s.size then 5 else match zc8 s s.size 0 with
 |none=>3
 |some l=>if l.any badI=true then 3 else 0
theorem ya7(s:ByteArray):zan Tryz.prog 132 [.str s] (int (ye0 s)):=by
 refine zab mixed Tryz.func132 rfl c_132 ?_
 unfold ye0
 by_cases K:200<s.size
 .have F:(200:Int)<s.size:=by omega
  simp+decide[Tryz.f132,F,K,int]
 have F:¬(200:Int)<s.size:=by omega
 simp+decide[Tryz.f132,F,K,int]
 refine zai.pure (by rfl) (zfl s (by omega)) (by simp) ?_
 cases J:zc8 s s.size 0 with
 |none=>simp+decide[ptsD,int]
 |some l=>
  have E:l.length<=s.size:=zsg s _ _ _ J
  simp+decide[ptsD,ints,int];refine zae mixed (λk:Nat=>{n:=34,next:=0,slots:=[(3,.d (ints l)),(5,.d (int k))],own:=[]})
   (λk=>k<=l.length/\∀ x∈l.take k,badI x=false) (λk=>l.length-k) 0 (by simp) (by simp+decide[int,ints]) ?_
  intro k ⟨L,M⟩;by_cases H:k<l.length
  .have e1:l[k]?=some l[k]:=List.getElem?_eq_getElem H
   have G:badI l[k]=true->l.any badI=true:=λO=>List.any_eq_true.2 ⟨l[k],List.getElem_mem H,O⟩
   by_cases b1:l[k]<32
   .have O:=G (by simp[badI,b1])
    simp+decide[ints,int,e1,H,b1];exact List.any_eq_true.1 O
   .by_cases b2:l[k]=127
    .have O:=G (by simp[badI,b2])
     simp+decide[ints,int,e1,H,b1,b2];exact List.any_eq_true.1 O
    .simp+decide[ints,int,e1,H,b1,b2,I64]
     refine⟨by omega,k+1,⟨H,?_⟩,by omega,by omega⟩
     rw[List.take_succ_eq_append_getElem H];intro x Q;rcases List.mem_append.1 Q with Q | Q
     .exact M x Q
     .simp at Q;rw[Q];simp[badI,b1,b2]
  .have:k=l.length:=by omega
   subst this;rw[List.take_length] at M;have O:l.any badI=false:=by rw[List.any_eq_false];intro x Q;simp[M x Q]
   simp+decide[ints,int];exact M
def zpd(l:List Sens)(s:ByteArray):Bool:=l.any λx=>decide (x.gloss=s)
theorem ye1(l:List Sens)(s:ByteArray)(E:l.length<2^40):zan Tryz.prog 263 [zbv l,.str s] (.bool (zpd l s)):=by
 refine zab mixed Tryz.func263 rfl c_263 ?_
 simp+decide[Tryz.f263,int,zbv]
 refine zae mixed (λk:Nat=>{n:=19,next:=0,slots:=[(0,.d (zbv l)),(1,.d (.str s)),(5,.d (int k))],own:=[]})
  (λk=>k<=l.length/\∀ x∈l.take k,¬x.gloss=s) (λk=>l.length-k) 0 (by simp) (by simp+decide[int,zbv]) ?_
 intro k ⟨K,J⟩
 by_cases H:k<l.length
 .have G:(k:Int)<l.length:=by omega
  have F:=List.getElem_mem H;have hsn:=zao H;obtain⟨x,ex⟩:∃ x,l[k]=x:=⟨_,rfl⟩;have e1:l[k]?=some x:=by rw[List.getElem?_eq_getElem H,ex]
  rw[ex] at F hsn;by_cases b1:x.gloss=s
  .have:zpd l s=true:=List.any_eq_true.2 ⟨x,F,by simpa using b1⟩
   rw[this];simp+decide[int,zbv,Sens.row,H,G,e1,ex,b1]
  .simp+decide[int,zbv,Sens.row,H,G,e1,ex,b1,I64]
   first | refine⟨λh=>absurd (bytes_inj h) b1,λ_=>⟨⟨by omega,by omega⟩,k+1,⟨H,λy L=>?_⟩,by omega,by omega⟩⟩ | refine⟨⟨by omega,by omega⟩,k+1,⟨H,λy L=>?_⟩,by omega,by omega⟩
   rw[hsn] at L;rcases List.mem_append.1 L with h | h
   .exact J y h
   .rw[List.mem_singleton] at h;rw[h];exact b1
 .have:k=l.length:=by omega
  subst this;rw[List.take_length] at J;have:zpd l s=false:=by unfold zpd;rw[List.any_eq_false];intro x M;simpa using J x M
  rw[this];simp+decide[int,zbv]
def z01(l:List Sens)(s:Sens):Int:=if zql s.gloss=false then 7 else if ye0 s.defn≠0 then ye0 s.defn else if zpd l s.gloss=true then 8 else 0
theorem zmm(l:List Sens)(s:Sens)(H:l.length<2^40)(hs:s.gloss.size<=1048576):zan Tryz.prog 232 [zbv l,.agg s.row] (int (z01 l s)):=by
 refine zab mixed Tryz.func232 rfl c_232 ?_
 have G:=ye1 l s.gloss H
 unfold z01
 simp+decide[Tryz.f232,int,Sens.row]
 refine zai.pure (by rfl) (z4v s.gloss hs) (by simp) ?_
 cases F:zql s.gloss with
 |false=>simp+decide[int]
 |true=>
  simp+decide[int];refine zai.pure (by rfl) (ya7 s.defn) (by simp) ?_
  by_cases E:ye0 s.defn=0
  case neg=>simp+decide[int,E]
  simp+decide[int,E];generalize zpd l s.gloss=b at G ⊢;refine zai.pure (by rfl) G (by simp[int]) ?_
  cases b <;> simp+decide[int]
theorem z4w(e:Ent)(M:EntC e):zf7 Tryz.prog 200 [.agg e.row] (λx=>∃ n,x=int n/\(n=0->(e.senses≠[]\/e.main≠0)/\e.senses.length<=5)):=by
 have L:=M.senses.1
 refine za3 mixed Tryz.func200 rfl c_200 ?_
 by_cases O:e.main=0
 .by_cases h2:e.main=e.id
  .have E:e.id=0:=by omega
   simp+decide[Tryz.f200,int,Ent.row,O,E]
  have E:¬0=e.id:=by omega
  by_cases Q:(5:Int)<e.senses.length
  .simp+decide[Tryz.f200,int,Ent.row,zbv,O,E,Q]
  by_cases T:(e.senses.length:Int)=0
  .simp+decide[Tryz.f200,int,Ent.row,zbv,O,E,Q,T]
  simp+decide[Tryz.f200,int,Ent.row,zbv,O,E,Q,T];intro J;refine zae mixed (λk:Nat=>{n:=52,next:=1,slots:=[(1,.bp 0 0),(3,.d (int k))],own:=[(0,.box 102 (e.row.map .d))]})
   (λk=>k<=e.senses.length) (λk=>e.senses.length-k) 0 (by simp) (by simp+decide[int,ints,Ent.row,zbv,O]) ?_
  intro k V;by_cases G:k<e.senses.length
  .have H:(k:Int)<e.senses.length:=by omega
   have F:=M.senses.2 e.senses[k] (List.getElem_mem G);obtain⟨s,es⟩:∃ s,e.senses[k]=s:=⟨_,rfl⟩;have es1:e.senses[k]?=some s:=by rw[List.getElem?_eq_getElem G,es]
   rw[es] at F;have X:=zmm (e.senses.take k) s (by rw[List.length_take];omega) F.1
   have eS:zbv (e.senses.take k) = .sl ((e.senses.map Sens.row).take k):=by simp[zbv,List.map_take]
   rw[eS] at X;have K:∀ a∈e.senses,a.row.length=2:=λa _=>rfl
   simp+decide[int,ints,zbv,Ent.row,G,H,es,es1];refine⟨by omega,K,by rfl,by simp[Sens.row],?_⟩
   refine zaa (by rfl) (by rfl) X (by simp[Sens.row,int]) ?_
   by_cases Y:z01 (e.senses.take k) s=0
   case neg=>simp+decide[int,Y]
   rw[Y];simp+decide[int,ints,zbv,Ent.row,I64];exact⟨⟨by omega,by omega⟩,k+1,G,by omega,by omega⟩
  .have H:¬(k:Int)<e.senses.length:=by omega
   simp+decide[int,ints,zbv,Ent.row,H];exact⟨J,by omega⟩
 .simp+decide[Tryz.f200,int,Ent.row,zbv,O]
  refine zai.pure (by rfl) (zh3 e.main) (by simp[int]) ?_
  cases hid:zjg e.main with
  |false=>simp+decide[int]
  |true=>
   by_cases h2:e.main=e.id
   .simp+decide[int,h2]
   by_cases Q:(5:Int)<e.senses.length
   .simp+decide[int,zbv,h2,Q]
   by_cases T:(e.senses.length:Int)=0
   .simp+decide[int,zbv,O,h2,Q,T]
    refine zae mixed (λk:Nat=>{n:=52,next:=1,slots:=[(1,.bp 0 0),(3,.d (int k))],own:=[(0,.box 102 (e.row.map .d))]})
     (λk=>k<=e.senses.length) (λk=>e.senses.length-k) 0 (by simp) (by simp+decide[int,ints,Ent.row,zbv,O]) ?_
    intro k V;by_cases G:k<e.senses.length
    .have H:(k:Int)<e.senses.length:=by omega
     have F:=M.senses.2 e.senses[k] (List.getElem_mem G);obtain⟨s,es⟩:∃ s,e.senses[k]=s:=⟨_,rfl⟩;have es1:e.senses[k]?=some s:=by rw[List.getElem?_eq_getElem G,es]
     rw[es] at F;have X:=zmm (e.senses.take k) s (by rw[List.length_take];omega) F.1
     have eS:zbv (e.senses.take k) = .sl ((e.senses.map Sens.row).take k):=by simp[zbv,List.map_take]
     rw[eS] at X;have K:∀ a∈e.senses,a.row.length=2:=λa _=>rfl
     simp+decide[int,ints,zbv,Ent.row,G,H,es,es1];refine⟨by omega,K,by rfl,by simp[Sens.row],?_⟩
     refine zaa (by rfl) (by rfl) X (by simp[Sens.row,int]) ?_
     by_cases Y:z01 (e.senses.take k) s=0
     case neg=>simp+decide[int,Y]
     rw[Y];simp+decide[int,ints,zbv,Ent.row,I64];exact⟨⟨by omega,by omega⟩,k+1,G,by omega,by omega⟩
    .have H:¬(k:Int)<e.senses.length:=by omega
     simp+decide[int,ints,zbv,Ent.row,H];omega
   .have J:¬e.senses=[]:=by intro h;rw[h] at T;simp at T
    simp+decide[int,zbv,O,h2,Q,T,J];refine zae mixed (λk:Nat=>{n:=52,next:=1,slots:=[(1,.bp 0 0),(3,.d (int k))],own:=[(0,.box 102 (e.row.map .d))]})
     (λk=>k<=e.senses.length) (λk=>e.senses.length-k) 0 (by simp) (by simp+decide[int,ints,Ent.row,zbv,O]) ?_
    intro k V;by_cases G:k<e.senses.length
    .have H:(k:Int)<e.senses.length:=by omega
     have F:=M.senses.2 e.senses[k] (List.getElem_mem G);obtain⟨s,es⟩:∃ s,e.senses[k]=s:=⟨_,rfl⟩;have es1:e.senses[k]?=some s:=by rw[List.getElem?_eq_getElem G,es]
     rw[es] at F;have X:=zmm (e.senses.take k) s (by rw[List.length_take];omega) F.1
     have eS:zbv (e.senses.take k) = .sl ((e.senses.map Sens.row).take k):=by simp[zbv,List.map_take]
     rw[eS] at X;have K:∀ a∈e.senses,a.row.length=2:=λa _=>rfl
     simp+decide[int,ints,zbv,Ent.row,G,H,es,es1];refine⟨by omega,K,by rfl,by simp[Sens.row],?_⟩
     refine zaa (by rfl) (by rfl) X (by simp[Sens.row,int]) ?_
     by_cases Y:z01 (e.senses.take k) s=0
     case neg=>simp+decide[int,Y]
     rw[Y];simp+decide[int,ints,zbv,Ent.row,I64];exact⟨⟨by omega,by omega⟩,k+1,G,by omega,by omega⟩
    .have H:¬(k:Int)<e.senses.length:=by omega
     simp+decide[int,ints,zbv,Ent.row,H];omega
def ye2(a b:Rf):Bool:=decide (a.rcd<b.rcd) || (decide (a.rcd=b.rcd)&&decide (a.note<b.note))
theorem ye3(a b:Rf):zan Tryz.prog 234 [.agg a.row,.agg b.row] (.bool (ye2 a b)):=by
 refine zab mixed Tryz.func234 rfl c_234 ?_
 by_cases H:a.rcd<b.rcd
 .simp+decide[Tryz.f234,int,Rf.row,ye2,H]
 .by_cases h2:a.rcd=b.rcd
  .simp+decide[Tryz.f234,int,Rf.row,ye2,H,h2]
  .simp+decide[Tryz.f234,int,Rf.row,ye2,H,h2]
theorem yi9(a:Rf):zan Tryz.prog 233 [.agg a.row] (.bool (zjg a.rcd&&zjg a.note)):=by
 refine zab mixed Tryz.func233 rfl c_233 ?_
 simp+decide[Tryz.f233,int,Rf.row]
 refine zai.pure (by rfl) (zh3 a.rcd) (by simp[int]) ?_
 cases h:zjg a.rcd with
 |false=>simp+decide[int]
 |true=>
  simp+decide[int];refine zai.pure (by rfl) (zh3 a.note) (by simp[int]) ?_
  simp+decide[int]
theorem ye4(l:List Rf)(n:Int)(L:l.length<=1048576):zf7 Tryz.prog 202 [rfD l,int n] IsI:=by
 refine za3 mixed Tryz.func202 rfl c_202 ?_
 by_cases M:n<l.length
 .simp+decide[Tryz.f202,int,rfD,M]
 simp+decide[Tryz.f202,int,rfD,M]
 refine zae mixed (λk:Nat=>{n:=37,next:=0,slots:=[(0,.d (rfD l)),(5,.d (int k))],own:=[]})
  (λk=>k<=l.length) (λk=>l.length-k) 0 (by simp) (by simp+decide[int,rfD]) ?_
 intro k O
 by_cases G:k<l.length
 .have H:(k:Int)<l.length:=by omega
  obtain⟨x,ex⟩:∃ x,l[k]=x:=⟨_,rfl⟩;have e1:l[k]?=some x:=by rw[List.getElem?_eq_getElem G,ex]
  simp+decide[int,rfD,Rf.row,G,H,e1,ex];refine zai.pure (by rfl) (yi9 x) (by simp[int,Rf.row]) ?_
  cases Q:zjg x.rcd&&zjg x.note with
  |false=>simp+decide[int]
  |true=>
   by_cases E:k=0
   .subst E
    simp+decide[int,I64,rfD];exact⟨1,G,by omega,by omega⟩
   .have F:(0:Int)<k:=by omega
    have K:k-1<l.length:=by omega
    obtain⟨y,ey⟩:∃ y,l[k-1]=y:=⟨_,rfl⟩;have ey1:l[k-1]?=some y:=by rw[List.getElem?_eq_getElem K,ey]
    have t1:((k:Int)-1).toNat=k-1:=by omega
    have t2:0<=(k:Int)-1:=by omega
    have t3:(k:Int)-1<l.length:=by omega
    simp+decide[int,I64,rfD,Rf.row,E,F,G,H,e1,ex,ey,ey1,t1,t2,t3,K];intro _;refine⟨⟨by omega,by omega⟩,by omega,?_⟩
    refine zaa (by rfl) (by rfl) (ye3 y x) (by simp[int,Rf.row]) ?_
    cases J:ye2 y x with
    |false=>simp+decide[int]
    |true=>
     simp+decide[int,I64,rfD,F];exact⟨⟨by omega,by omega⟩,k+1,G,by omega,by omega⟩
 .have H:¬(k:Int)<l.length:=by omega
  simp+decide[int,rfD,H]
theorem ya8(e:Ent)(L:e.links.length<=1048576):zf7 Tryz.prog 201 [.agg e.row] (λx=>∃ n,x=int n/\(n=0->e.links.length<=12/\∀ l∈e.links,0<=l.kind/\l.kind<=5)):=by
 refine za3 mixed Tryz.func201 rfl c_201 ?_
 by_cases M:(12:Int)<e.links.length
 .simp+decide[Tryz.f201,int,Ent.row,lnkD,M]
 simp+decide[Tryz.f201,int,Ent.row,lnkD,M]
 refine zae mixed (λk:Nat=>{n:=76,next:=1,slots:=[(1,.bp 0 0),(3,.d (int k))],own:=[(0,.box 102 (e.row.map .d))]})
  (λk=>k<=e.links.length/\∀ l∈e.links.take k,0<=l.kind/\l.kind<=5) (λk=>e.links.length-k) 0 (by simp) (by simp+decide[int,ints,Ent.row,lnkD]) ?_
 intro k ⟨O,Q⟩
 by_cases G:k<e.links.length
 .have H:(k:Int)<e.links.length:=by omega
  obtain⟨x,ex⟩:∃ x,e.links[k]=x:=⟨_,rfl⟩;have e1:e.links[k]?=some x:=by rw[List.getElem?_eq_getElem G,ex]
  have hsn:=zao G;rw[ex] at hsn;by_cases b1:x.kind<0
  .simp+decide[int,ints,Ent.row,lnkD,Lnk.row,G,H,e1,ex,b1]
  by_cases b2:5<x.kind
  .simp+decide[int,ints,Ent.row,lnkD,Lnk.row,G,H,e1,ex,b1,b2]
  have J:∀ z∈e.links.take (k+1),0<=z.kind/\z.kind<=5:=by
   intro z T;rw[hsn] at T;rcases List.mem_append.1 T with h | h
   .exact Q z h
   .rw[List.mem_singleton] at h;rw[h];omega
  simp+decide[int,ints,Ent.row,lnkD,Lnk.row,G,H,e1,ex,b1,b2];refine zai.pure (by rfl) (zh3 x.dst) (by simp[int]) ?_
  cases V:zjg x.dst with
  |false=>simp+decide[int]
  |true=>
   by_cases b3:x.dst=e.id
   .simp+decide[int,b3]
   by_cases E:k=0
   .subst E
    simp+decide[int,ints,Ent.row,lnkD,Lnk.row,I64,b3];exact⟨1,⟨G,J⟩,by omega,by omega⟩
   .have F:(0:Int)<k:=by omega
    have K:k-1<e.links.length:=by omega
    obtain⟨y,ey⟩:∃ y,e.links[k-1]=y:=⟨_,rfl⟩;have ey1:e.links[k-1]?=some y:=by rw[List.getElem?_eq_getElem K,ey]
    have t1:((k:Int)-1).toNat=k-1:=by omega
    have t2:0<=(k:Int)-1:=by omega
    have t3:(k:Int)-1<e.links.length:=by omega
    by_cases c1:x.kind<y.kind
    .simp+decide[int,ints,Ent.row,lnkD,Lnk.row,I64,b3,E,F,G,H,e1,ex,ey,ey1,t1,t2,t3,K,c1]
     exact λ_=>⟨⟨by omega,by omega⟩,by omega⟩
    .by_cases c2:x.kind=y.kind
     .by_cases c3:x.dst<=y.dst
      .simp+decide[int,ints,Ent.row,lnkD,Lnk.row,I64,b3,E,F,G,H,e1,ex,ey,ey1,t1,t2,t3,K,c1,c2,c3]
       exact λ_=>⟨⟨by omega,by omega⟩,by omega,⟨by omega,by omega⟩,by omega,⟨by omega,by omega⟩,by omega⟩
      .simp+decide[int,ints,Ent.row,lnkD,Lnk.row,I64,b3,E,F,G,H,e1,ex,ey,ey1,t1,t2,t3,K,c1,c2,c3]
       exact λ_=>⟨⟨by omega,by omega⟩,by omega,⟨by omega,by omega⟩,by omega,⟨by omega,by omega⟩,by omega,⟨by omega,by omega⟩,k+1,⟨G,J⟩,by omega,by omega⟩
     .simp+decide[int,ints,Ent.row,lnkD,Lnk.row,I64,b3,E,F,G,H,e1,ex,ey,ey1,t1,t2,t3,K,c1,c2]
      exact λ_=>⟨⟨by omega,by omega⟩,by omega,⟨by omega,by omega⟩,by omega,⟨by omega,by omega⟩,k+1,⟨G,J⟩,by omega,by omega⟩
 .have:k=e.links.length:=by omega
  subst this;rw[List.take_length] at Q;simp+decide[int,ints,Ent.row,lnkD];exact⟨by omega,Q⟩
structure EntF(inv:List Phon)(e:Ent):Prop extends WordsF inv e where
 senses:e.senses≠[]\/e.main≠0
 fewS:e.senses.length<=5
 links:e.links.length<=12
 kinds:∀ l∈e.links,0<=l.kind/\l.kind<=5
theorem ya9(inv:List Phon)(e:Ent)(H:EntC e):zf7 Tryz.prog 149 [.agg [invD inv],.agg e.row] (λx=>∃ n,x=int n/\(n=0->EntF inv e)):=by
 refine za3 mixed Tryz.func149 rfl c_149 ?_
 simp+decide[Tryz.f149,int,Ent.row]
 refine zai.some (by rfl) (ya6 inv e H) ?_
 rintro r ⟨n,rfl,G⟩
 by_cases F:n=0
 case neg=>simp+decide[int,F]
 have G:=G F
 simp+decide[int,F]
 refine zai.some (by rfl) (z4w e H) ?_
 rintro r ⟨m,rfl,E⟩
 by_cases h2:m=0
 case neg=>simp+decide[int,h2]
 have E:=E h2
 simp+decide[int,h2]
 refine zai.some (by rfl) (ya8 e H.links) ?_
 rintro r ⟨j,rfl,K⟩
 by_cases J:j=0
 case neg=>simp+decide[int,J]
 have K:=K J
 simp+decide[int,J]
 refine zai.some (by rfl) (ye4 e.refs 12 H.refs) ?_
 rintro r ⟨i,rfl⟩
 simp+decide[int]
 exact λ_=>⟨G,E.1,E.2,K.1,K.2⟩
theorem zye(l:List Ent)(id:Int)(H:l.length<2^40):zan Tryz.prog 150 [lexD l,int id] (.bool (getE l id).2):=by
 refine zab mixed Tryz.func150 rfl c_150 ?_
 have G:=znj l id (by omega)
 generalize getE l id=r at G ⊢
 obtain⟨e,ok⟩:=r
 simp+decide[Tryz.f150,int,lexD]
 refine zai.pure (by rfl) G (by simp[lexD,int]) ?_
 simp+decide[int,Ent.row]
structure LexC(l:List Ent):Prop where
 few:l.length<=1048576
 each:∀ e∈l,EntC e
structure LexF(inv:List Phon)(l:List Ent):Prop where
 each:∀ e∈l,EntF inv e
 up:∀ k (h:k+1<l.length),l[k].id<l[k+1].id
theorem yba(inv:List Phon)(l:List Ent)(C:LexC l):zf7 Tryz.prog 90 [.agg [invD inv],lexD l] (λx=>∃ n,x=int n/\(n=0->LexF inv l)):=by
 have V:=C.few
 refine za3 mixed Tryz.func90 rfl c_90 ?_
 by_cases I:(100:Int)<l.length
 .simp+decide[Tryz.f90,int,lexD,I]
 simp+decide[Tryz.f90,int,lexD,I]
 refine zax mixed (λk:Nat=>{n:=87,next:=1,slots:=[(1,.d (lexD l)),(2,.bp 0 0),(13,.d (int l.length)),(14,.d (int k))],own:=[(0,.box 24 [.d (invD inv)])]})
  (λk=>k<=l.length/\(∀ e∈l.take k,EntF inv e)/\∀ j (h:j+1<l.length),j+1<k->l[j].id<l[j+1].id) (λk=>l.length-k) 0 ⟨by simp,by simp,λj h N=>absurd N (by omega)⟩ (by simp+decide[int,ints,lexD]) ?_
 intro k ⟨P,S,Q⟩
 by_cases E:k<l.length
 .have K:(k:Int)<l.length:=by omega
  have W:=C.each l[k] (List.getElem_mem E);obtain⟨e,ee⟩:∃ e,l[k]=e:=⟨_,rfl⟩;have e1:l[k]?=some e:=by rw[List.getElem?_eq_getElem E,ee]
  have hsn:=zao E;rw[ee] at hsn W;have hE:=ya9 inv e W;refine zl5 mixed 2 {n:=87,next:=1,slots:=[(1,.d (lexD l)),(2,.bp 0 0),(13,.d (int l.length)),(14,.d (int k))],own:=[(0,.box 24 [.d (invD inv)])]} rfl (by simp+decide[zij,cutK,int,lexD,E,K]) ?_
  simp only[zik];refine zmx (zfx (zl5 mixed 1 {n:=87,next:=1,slots:=[(1,.d (lexD l)),(2,.bp 0 0),(5,.d (int k)),(13,.d (int l.length)),(14,.d (int k))],own:=[(0,.box 24 [.d (invD inv)])]} rfl (by simp+decide[zij,cutK,int,lexD]) ?_)) mixed
  simp only[zik];refine zmx ?_ mixed
  refine zjj mixed 5 (by rfl) (by rfl) (by rfl) (by rfl) (by simp) ?_
  simp+decide[int,lexD,Ent.row,E,K,ee,e1];refine zai.some (by rfl) hE ?_
  rintro r ⟨n,rfl,hF⟩
  by_cases hn:n=0
  case neg=>simp+decide[int,hn]
  have hF:=hF hn;have T:∀ x∈l.take (k+1),EntF inv x:=by
   intro x hx;rw[hsn] at hx;rcases List.mem_append.1 hx with h | h
   .exact S x h
   .rw[List.mem_singleton] at h;rw[h];exact hF
  by_cases O:k=0
  .subst O
   simp+decide[int,hn,lexD,I64];exact⟨1,⟨E,T,λj h N=>absurd N (by omega)⟩,by omega,by omega⟩
  .have L:(0:Int)<k:=by omega
   have F:k-1<l.length:=by omega
   obtain⟨y,ey⟩:∃ y,l[k-1]=y:=⟨_,rfl⟩;have ey1:l[k-1]?=some y:=by rw[List.getElem?_eq_getElem F,ey]
   have t1:((k:Int)-1).toNat=k-1:=by omega
   have t2:0<=(k:Int)-1:=by omega
   have t3:(k:Int)-1<l.length:=by omega
   by_cases c1:e.id<=y.id
   .simp+decide[int,hn,lexD,Ent.row,I64,O,L,E,K,e1,ee,ey,ey1,t1,t2,t3,F,c1]
    exact λ_=>⟨⟨by omega,by omega⟩,by omega⟩
   .simp+decide[int,hn,lexD,Ent.row,I64,O,L,E,K,e1,ee,ey,ey1,t1,t2,t3,F,c1]
    refine λ_=>⟨⟨by omega,by omega⟩,by omega,⟨by omega,by omega⟩,k+1,⟨E,T,λj h N=>?_⟩,by omega,by omega⟩
    by_cases hj:j+1<k
    .exact Q j h hj
    .have X:j=k-1:=by omega
     subst X;have B:k-1+1=k:=by omega
     have:l[k-1+1]=e:=by rw[<-ee];congr 1
     rw[ey,this];omega
 .have:k=l.length:=by omega
  subst this;rw[List.take_length] at S;refine zas mixed ?_
  simp+decide[int,lexD];have M:LexF inv l:=⟨S,λj h=>Q j h h⟩
  refine zae mixed (λk:Nat=>{n:=87,next:=1,slots:=[(1,.d (lexD l)),(2,.bp 0 0),(44,.d (int l.length)),(45,.d (int k))],own:=[(0,.box 24 [.d (invD inv)])]})
   (λk=>k<=l.length) (λk=>l.length-k) 0 (by simp) (by simp+decide[int,ints,lexD]) ?_
  intro i hi;by_cases J:i<l.length
  .have H:(i:Int)<l.length:=by omega
   have Y:=(S l[i] (List.getElem_mem J)).links;obtain⟨e,ee⟩:∃ e,l[i]=e:=⟨_,rfl⟩;have e1:l[i]?=some e:=by rw[List.getElem?_eq_getElem J,ee]
   rw[ee] at Y;by_cases hm:e.main=0
   .simp+decide[int,lexD,Ent.row,lnkD,J,H,e1,ee,hm,I64]
    refine zae mixed (λm:Nat=>{n:=87,next:=1,slots:=[(1,.d (lexD l)),(2,.bp 0 0),(7,.d (int i)),(44,.d (int l.length)),(45,.d (int i)),(69,.d (int e.links.length)),(70,.d (int m))],own:=[(0,.box 24 [.d (invD inv)])]})
     (λm=>m<=e.links.length) (λm=>e.links.length-m) 0 (by simp) (by simp+decide[int,ints,lexD]) ?_
    intro m Z;by_cases F:m<e.links.length
    .have G:(m:Int)<e.links.length:=by omega
     obtain⟨y,ey⟩:∃ y,e.links[m]=y:=⟨_,rfl⟩;have ey1:e.links[m]?=some y:=by rw[List.getElem?_eq_getElem F,ey]
     simp+decide[int,lexD,Ent.row,lnkD,Lnk.row,J,H,e1,ee,F,G,ey,ey1,I64];refine zai.pure (by rfl) (zye l y.dst (by omega)) (by simp[int,lexD]) ?_
     cases A:(getE l y.dst).2 with
     |false=>simp+decide[int]
     |true=>
      simp+decide[int,I64,lexD];exact⟨⟨by omega,by omega⟩,m+1,F,by omega,by omega⟩
    .have G:¬(m:Int)<e.links.length:=by omega
     simp+decide[int,lexD,G,I64];exact⟨⟨by omega,by omega⟩,i+1,J,by omega,by omega⟩
   .simp+decide[int,lexD,Ent.row,lnkD,J,H,e1,ee,hm,I64]
    refine zai.pure (by rfl) (zye l e.main (by omega)) (by simp[int,lexD]) ?_
    cases hg:(getE l e.main).2 with
    |false=>simp+decide[int]
    |true=>
     simp+decide[int,lexD,Ent.row,lnkD,J,H,e1,ee,hm,I64];refine zae mixed (λm:Nat=>{n:=87,next:=1,slots:=[(1,.d (lexD l)),(2,.bp 0 0),(7,.d (int i)),(44,.d (int l.length)),(45,.d (int i)),(69,.d (int e.links.length)),(70,.d (int m))],own:=[(0,.box 24 [.d (invD inv)])]})
      (λm=>m<=e.links.length) (λm=>e.links.length-m) 0 (by simp) (by simp+decide[int,ints,lexD]) ?_
     intro m Z;by_cases F:m<e.links.length
     .have G:(m:Int)<e.links.length:=by omega
      obtain⟨y,ey⟩:∃ y,e.links[m]=y:=⟨_,rfl⟩;have ey1:e.links[m]?=some y:=by rw[List.getElem?_eq_getElem F,ey]
      simp+decide[int,lexD,Ent.row,lnkD,Lnk.row,J,H,e1,ee,F,G,ey,ey1,I64];refine zai.pure (by rfl) (zye l y.dst (by omega)) (by simp[int,lexD]) ?_
      cases A:(getE l y.dst).2 with
      |false=>simp+decide[int]
      |true=>
       simp+decide[int,I64,lexD];exact⟨⟨by omega,by omega⟩,m+1,F,by omega,by omega⟩
     .have G:¬(m:Int)<e.links.length:=by omega
      simp+decide[int,lexD,G,I64];exact⟨⟨by omega,by omega⟩,i+1,J,by omega,by omega⟩
  .have H:¬(i:Int)<l.length:=by omega
   simp+decide[int,lexD,H];exact M
def invC(k:Int):Int:=if k=0 then k else if k=1 then k else if k=2 then 3 else if k=3 then 2 else if k=4 then 5 else if k=5 then 4 else -1
theorem zqm(k:Int):zan Tryz.prog 151 [int k] (int (invC k)):=by
 refine zab mixed Tryz.func151 rfl c_151 ?_
 unfold invC
 by_cases H:k=0
 .simp+decide[Tryz.f151,int,H]
 by_cases G:k=1
 .simp+decide[Tryz.f151,int,H,G]
 by_cases h2:k=2
 .simp+decide[Tryz.f151,int,H,G,h2]
 by_cases F:k=3
 .simp+decide[Tryz.f151,int,H,G,h2,F]
 by_cases E:k=4
 .simp+decide[Tryz.f151,int,H,G,h2,F,E]
 by_cases K:k=5
 .simp+decide[Tryz.f151,int,H,G,h2,F,E,K]
 simp+decide[Tryz.f151,int,H,G,h2,F,E,K]
def z02(e:Ent)(x:Lnk):Bool:=e.links.any λy=>decide (y=x)
theorem yja(e:Ent)(x:Lnk)(K:e.links.length<=1048576):zan Tryz.prog 153 [.agg e.row,.agg x.row] (.bool (z02 e x)):=by
 refine zab mixed Tryz.func153 rfl c_153 ?_
 simp+decide[Tryz.f153,int,Ent.row,Lnk.row]
 refine zae mixed (λk:Nat=>{n:=20,next:=2,slots:=[(2,.bp 0 0),(3,.bp 1 0),(5,.d (int k))],own:=[(0,.box 102 (e.row.map .d)),(1,.box 213 (x.row.map .d))]})
  (λk=>k<=e.links.length/\∀ y∈e.links.take k,¬y=x) (λk=>e.links.length-k) 0 (by simp) (by simp+decide[int,ints,Ent.row,Lnk.row,lnkD]) ?_
 intro k ⟨J,L⟩
 by_cases H:k<e.links.length
 .have G:(k:Int)<e.links.length:=by omega
  have F:=List.getElem_mem H;have hsn:=zao H;obtain⟨y,ey⟩:∃ y,e.links[k]=y:=⟨_,rfl⟩;have e1:e.links[k]?=some y:=by rw[List.getElem?_eq_getElem H,ey]
  rw[ey] at F hsn;by_cases b1:y=x
  .have:z02 e x=true:=List.any_eq_true.2 ⟨y,F,by simpa using b1⟩
   rw[this];subst b1;simp+decide[int,ints,Ent.row,lnkD,Lnk.row,H,G,e1,ey]
  .simp+decide[int,ints,Ent.row,lnkD,Lnk.row,H,G,e1,ey,I64]
   have E:y.kind=x.kind->¬y.dst=x.dst:=by
    intro M h2;obtain⟨a,b⟩:=y;obtain⟨c,d⟩:=x;simp only at M h2
    exact b1 (by rw[M,h2])
   refine⟨λM h2=>absurd h2 (E M),λ_=>⟨⟨by omega,by omega⟩,k+1,⟨H,λz O=>?_⟩,by omega,by omega⟩⟩
   rw[hsn] at O;rcases List.mem_append.1 O with h | h
   .exact L z h
   .rw[List.mem_singleton] at h;rw[h];exact b1
 .have:k=e.links.length:=by omega
  subst this;rw[List.take_length] at L;have:z02 e x=false:=by unfold z02;rw[List.any_eq_false];intro y Q;simpa using L y Q
  rw[this];simp+decide[int,ints,Ent.row,lnkD]
theorem ye5(l:List Int)(x:Int)(E:l.length<2^40):zan Tryz.prog 154 [ints l,int x] (.bool (decide (x∈l))):=by
 refine zab mixed Tryz.func154 rfl c_154 ?_
 simp+decide[Tryz.f154,int,ints]
 refine zae mixed (λk:Nat=>{n:=18,next:=0,slots:=[(0,.d (ints l)),(1,.d (int x)),(5,.d (int k))],own:=[]})
  (λk=>k<=l.length/\∀ y∈l.take k,¬y=x) (λk=>l.length-k) 0 (by simp) (by simp+decide[int,ints]) ?_
 intro k ⟨K,J⟩
 by_cases H:k<l.length
 .have G:(k:Int)<l.length:=by omega
  have F:=List.getElem_mem H;have hsn:=zao H;obtain⟨y,ey⟩:∃ y,l[k]=y:=⟨_,rfl⟩;have e1:l[k]?=some y:=by rw[List.getElem?_eq_getElem H,ey]
  rw[ey] at F hsn;by_cases b1:y=x
  .subst b1
   simp+decide[int,ints,H,G,e1,ey,F]
  .simp+decide[int,ints,H,G,e1,ey,b1,I64]
   refine⟨⟨by omega,by omega⟩,k+1,⟨H,λz L=>?_⟩,by omega,by omega⟩
   rw[hsn] at L;rcases List.mem_append.1 L with h | h
   .exact J z h
   .rw[List.mem_singleton] at h;rw[h];exact b1
 .have:k=l.length:=by omega
  subst this;rw[List.take_length] at J;have M:¬x∈l:=λh=>J x h rfl
  simp+decide[int,ints,M]
def zns(l:List Ent)(kind:Int)(s:List Bool×List Int)(x:Lnk):List Bool×List Int:=
 if x.kind=kind/\0<=zeb l x.dst/\s.1[(zeb l x.dst).toNat]?.getD true=false then (s.1.set (zeb l x.dst).toNat true,s.2++[x.dst]) else s
def rOne(l:List Ent)(kind:Int)(s:List Bool×List Int)(t:Int):List Bool×List Int:=(getE l t).1.links.foldl (zns l kind) s
def ykv(l:List Ent)(kind:Int)(s:List Bool×List Int):List Bool×List Int:=s.2.foldl (rOne l kind) (s.1,[])
def rN(l:List Ent)(id kind:Int):Nat->List Bool×List Int
 |0=>(List.replicate l.length false,[id])
 |n+1=>ykv l kind (rN l id kind n)
def rOut(l:List Ent)(s:List Bool)(k:Nat):List Int:=((List.range k).filter λj=>s[j]?.getD false).map λj=>((l[j]?).map Ent.id).getD 0
def ztb(l:List Ent)(id kind:Int):List Int:=rOut l (rN l id kind (l.length+1)).1 l.length
theorem ye6(l:List Ent)(kind:Int)(s:List Bool×List Int)(x:Lnk):(zns l kind s x).1.length=s.1.length/\(zns l kind s x).2.length<=s.2.length+1:=by
 unfold zns;split <;> simp
theorem ztc(l:List Ent)(kind:Int):∀ (xs:List Lnk) (s:List Bool×List Int),(xs.foldl (zns l kind) s).1.length=s.1.length/\(xs.foldl (zns l kind) s).2.length<=s.2.length+xs.length
 | [],s=>⟨rfl,Nat.le_refl _⟩
 |x::xs,s=>by
  have H:=ye6 l kind s x;have h2:=ztc l kind xs (zns l kind s x);rw[List.foldl_cons,List.length_cons];exact⟨h2.1.trans H.1,by omega⟩
theorem zwe{l:List Ent}(H:∀ e∈l,e.links.length<=12)(t:Int):(getE l t).1.links.length<=12:=by
 rcases zda l t with⟨_,h2⟩ | ⟨j,G,_,h2⟩
 .rw[h2];simp[Ent.zero]
 .rw[h2];exact H _ (List.getElem_mem G)
theorem ztd{l:List Ent}(H:∀ e∈l,e.links.length<=12)(kind:Int):∀ (ts:List Int) (s:List Bool×List Int),(ts.foldl (rOne l kind) s).1.length=s.1.length/\(ts.foldl (rOne l kind) s).2.length<=s.2.length+12*ts.length
 | [],s=>⟨rfl,by simp⟩
 |t::ts,s=>by
  have G:=ztc l kind (getE l t).1.links s;have F:=zwe H t;have h2:=ztd H kind ts (rOne l kind s t);rw[List.foldl_cons,List.length_cons];unfold rOne at h2 ⊢;exact⟨h2.1.trans G.1,by omega⟩
theorem ykw{l:List Ent}(H:∀ e∈l,e.links.length<=12)(id kind:Int):∀ n,(rN l id kind n).1.length=l.length/\(rN l id kind n).2.length<=12^n
 |0=>by simp[rN]
 |n+1=>by
  have h:=ykw H id kind n;have h2:=ztd H kind (rN l id kind n).2 ((rN l id kind n).1,[]);unfold rN ykv;simp only[List.length_nil,Nat.zero_add] at h2;refine⟨h2.1.trans h.1,Nat.le_trans h2.2 ?_⟩
  rw[Nat.pow_succ];omega
theorem ye7(l:List Ent)(s:List Bool)(k:Nat):rOut l s (k+1)=rOut l s k++(if s[k]?.getD false=true then [((l[k]?).map Ent.id).getD 0] else []):=by
 unfold rOut
 rw[List.range_succ,List.filter_append,List.map_append]
 congr 1
 by_cases h:s[k]?.getD false=true
 .simp[h]
 .simp[h]
theorem z8v(l:List Ent)(s:List Bool)(k:Nat):(rOut l s k).length<=k:=by
 unfold rOut
 rw[List.length_map]
 have:=List.length_filter_le (λj=>s[j]?.getD false) (List.range k)
 simpa using this
def rB(l:List Bool):List (List D):=l.map λb=>[.bool b]
def rI(l:List Int):List (List D):=l.map λn=>[int n]
def rH(l:List Ent)(id kind:Int)(i:Nat):St:=
 {n:=110,next:=3,slots:=[(0,.d (lexD l)),(1,.d (int id)),(2,.d (int kind)),(7,.ar 1),(8,.d (ints (rN l id kind i).2)),(9,.d (int i))],own:=[(1,.arr 4 1 (rB (rN l id kind i).1))],moved:=[3]}
def rM(l:List Ent)(id kind:Int)(i:Nat)(todo:List Int)(s:List Bool×List Int):St:=
 {n:=110,next:=4,slots:=[(0,.d (lexD l)),(1,.d (int id)),(2,.d (int kind)),(7,.ar 1),(8,.d (ints todo)),(9,.d (int i)),(10,.ar 3)],own:=[(1,.arr 4 1 (rB s.1)),(3,.arr 3 1 (rI s.2))],moved:=[3]}
def rMj(l:List Ent)(id kind:Int)(i:Nat)(todo:List Int)(j:Nat)(s:List Bool×List Int):St:=
 {n:=110,next:=4,slots:=[(0,.d (lexD l)),(1,.d (int id)),(2,.d (int kind)),(7,.ar 1),(8,.d (ints todo)),(9,.d (int i)),(10,.ar 3),(11,.d (int j))],own:=[(1,.arr 4 1 (rB s.1)),(3,.arr 3 1 (rI s.2))],moved:=[3]}
def rL(l:List Ent)(id kind:Int)(i:Nat)(todo:List Int)(j:Nat)(f:Int)(m:Nat)(s:List Bool×List Int):St:=
 {n:=110,next:=4,slots:=[(0,.d (lexD l)),(1,.d (int id)),(2,.d (int kind)),(7,.ar 1),(8,.d (ints todo)),(9,.d (int i)),(10,.ar 3),(11,.d (int j)),(12,.d (int f)),(13,.d (int m))],own:=[(1,.arr 4 1 (rB s.1)),(3,.arr 3 1 (rI s.2))],moved:=[3]}
theorem zwf(l:List Ent)(id kind:Int)(hl:l.length<=5)(hk:∀ e∈l,e.links.length<=12):zan Tryz.prog 155 [lexD l,int id,int kind] (ints (ztb l id kind)):=by
 refine zab mixed Tryz.func155 rfl c_155 ?_
 simp+decide[Tryz.f155,int,lexD]
 refine⟨by omega,by unfold maxLen;omega,?_⟩
 refine zp2 [2] ?_
 refine zax mixed (rH l id kind) (λi=>i<=l.length+1) (λi=>l.length+1-i) 0 (by simp) (by simp+decide[rH,rN,int,ints,lexD,rB]) ?_
 intro i hi
 obtain⟨n1,n2⟩:=ykw hk id kind i
 have N:12^i<=12^6:=Nat.pow_le_pow_right (by omega) (by omega)
 by_cases W:i<l.length+1
 .have Q:(i:Int)<=l.length:=by omega
  refine zl5 mixed 1 (rH l id kind i) rfl (by simp+decide[rH,zij,cutK,int,lexD,Q]) ?_
  simp only[zik];refine zmx (zfx (zl5 mixed 2 (rM l id kind i (rN l id kind i).2 (rN l id kind (i+1))) rfl ?_ ?_)) mixed
  .unfold rH
   have n3:(rN l id kind i).2.length<=2985984:=Nat.le_trans n2 (Nat.le_trans N (by decide))
   have G:rN l id kind (i+1)=(rN l id kind i).2.foldl (rOne l kind) ((rN l id kind i).1,[]):=rfl
   generalize rN l id kind (i+1)=nx at G;generalize rN l id kind i=cur at G n1 n2 n3 ⊢;obtain⟨seen,todo⟩:=cur;simp only at G n1 n2 n3
   simp+decide[rH,zij,int,lexD];have A:(seen,[])=(([]:List Int).foldl (rOne l kind) (seen,[])):=rfl
   refine zae mixed (λj:Nat=>rMj l id kind i todo j ((todo.take j).foldl (rOne l kind) (seen,[]))) (λj=>j<=todo.length) (λj=>todo.length-j) 0 (by simp) (by simp+decide[rMj,int,ints,lexD,rB,rI]) ?_
   intro j hj;obtain⟨m1,m2⟩:=ztd hk kind (todo.take j) (seen,[]);rw[List.length_take] at m2;simp only[List.length_nil,Nat.zero_add] at m1 m2;by_cases K:j<todo.length
   case neg=>
    have:j=todo.length:=by omega
    subst this;rw[List.take_length,<-G];simp+decide[rMj,rM,int,ints,lexD,cutK];done
   have T:(j:Int)<todo.length:=by omega
   have hsn:(todo.take (j+1)).foldl (rOne l kind) (seen,[])=rOne l kind ((todo.take j).foldl (rOne l kind) (seen,[])) todo[j]:=by rw[zao K,List.foldl_append];rfl
   obtain⟨t,et⟩:∃ t,todo[j]=t:=⟨_,rfl⟩;have et1:todo[j]?=some t:=by rw[List.getElem?_eq_getElem K,et]
   rw[et] at hsn;generalize (todo.take j).foldl (rOne l kind) (seen,[])=s0 at hsn m1 m2;have hF:=zs3 l t (by omega)
   have F:=zwe hk t;have V:rOne l kind s0 t=(getE l t).1.links.foldl (zns l kind) s0:=rfl
   rw[V] at hsn;simp+decide[rMj,int,ints,lexD,K,T,et,et1];refine zai.pure (by rfl) hF (by simp[int,lexD]) ?_
   simp+decide[int,ints,lexD];refine zae mixed (λm:Nat=>rL l id kind i todo j (zeb l t) m (((getE l t).1.links.take m).foldl (zns l kind) s0)) (λm=>m<=(getE l t).1.links.length) (λm=>(getE l t).1.links.length-m) 0 (by simp) (by simp+decide[rL,int,ints,lexD,rB,rI]) ?_
   intro m hm;rcases zda l t with⟨f1,f2⟩ | ⟨q,hq,f1,f2⟩
   .have hz:(getE l t).1.links=[]:=by rw[f2];rfl
    rw[hz] at hm hsn ⊢;have P:m=0:=by simpa using hm
    subst P;have S:¬0<=zeb l t:=by omega
    simp only[List.take_zero,List.foldl_nil] at hsn ⊢;simp+decide[rL,int,ints,lexD,S,I64];exact⟨⟨by omega,by omega⟩,j+1,K,by omega,by omega,by rw[hsn],by rw[hsn]⟩
   .rw[f2] at hm hsn F ⊢
    simp only at hm hsn F ⊢
    rw[f1];obtain⟨e,ee⟩:∃ e,l[q]=e:=⟨_,rfl⟩;have eq1:l[q]?=some e:=by rw[List.getElem?_eq_getElem hq,ee]
    have B:(q:Int)<l.length:=by omega
    rw[ee] at hm hsn F ⊢;by_cases E:m<e.links.length
    case neg=>
     have:m=e.links.length:=by omega
     subst this;rw[List.take_length,<-hsn];simp+decide[rL,int,ints,lexD,hq,B,ee,eq1,Ent.row,lnkD,I64];exact⟨⟨by omega,by omega⟩,j+1,K,by omega,by omega,rfl,rfl⟩
    have X:(m:Int)<e.links.length:=by omega
    obtain⟨p1,p2⟩:=ztc l kind (e.links.take m) s0;rw[List.length_take] at p2;have H:(e.links.take (m+1)).foldl (zns l kind) s0=zns l kind ((e.links.take m).foldl (zns l kind) s0) e.links[m]:=by rw[zao E,List.foldl_append];rfl
    obtain⟨x,ex⟩:∃ x,e.links[m]=x:=⟨_,rfl⟩;have ex1:e.links[m]?=some x:=by rw[List.getElem?_eq_getElem E,ex]
    rw[ex] at H;generalize (e.links.take m).foldl (zns l kind) s0=s1 at H p1 p2;have hG:=zs3 l x.dst (by omega)
    have J:zns l kind s1 x=if x.kind=kind/\0<=zeb l x.dst/\s1.1[(zeb l x.dst).toNat]?.getD true=false then (s1.1.set (zeb l x.dst).toNat true,s1.2++[x.dst]) else s1:=rfl
    rw[J] at H;simp+decide[rL,int,ints,lexD,hq,B,ee,eq1,Ent.row,lnkD,Lnk.row,I64,E,X,ex,ex1];refine zai.pure (by rfl) hG (by simp[int,lexD]) ?_
    by_cases k1:x.kind=kind
    case neg=>
     rw[if_neg (λh=>k1 h.1)] at H
     simp+decide[int,k1,I64];exact⟨⟨by omega,by omega⟩,m+1,E,by omega,by omega,by rw[H],by rw[H]⟩
    rcases zda l x.dst with⟨g1,g2⟩ | ⟨u,hu,g1,g2⟩
    .have C:¬0<=zeb l x.dst:=by omega
     rw[if_neg (λh=>C h.2.1)] at H
     simp+decide[int,k1,C,I64];exact⟨⟨by omega,by omega⟩,m+1,E,by omega,by omega,by rw[H],by rw[H]⟩
    .have Y:u<s1.1.length:=by omega
     obtain⟨b,eb⟩:∃ b,s1.1[u]=b:=⟨_,rfl⟩;have eb1:s1.1[u]?=some b:=by rw[List.getElem?_eq_getElem Y,eb]
     rw[g1] at H;simp only[Int.toNat_natCast,eb1,Option.getD_some] at H;have I:(u:Int)<s1.1.length:=by omega
     cases b with
     |true=>
      rw[if_neg (λh=>by cases h.2.2)] at H
      simp+decide[int,k1,g1,rB,Y,I,eb,eb1,I64];exact⟨⟨by omega,by omega⟩,m+1,E,by omega,by omega,by rw[H],by rw[H]⟩
     |false=>
      rw[if_pos ⟨k1,by omega,rfl⟩] at H
      simp+decide[int,k1,g1,rB,rI,Y,I,eb,eb1,I64];exact⟨by omega,by unfold maxLen;omega,⟨by omega,by omega⟩,m+1,E,by omega,by omega,by rw[H];simp[List.map_set],by rw[H];simp⟩
  .simp only[zik]
   refine zp2 [3] ?_
   refine zas mixed ?_
   simp+decide[rM,int,lexD];exact⟨⟨by omega,by omega⟩,i+1,by omega,by omega,by simp+decide[rH,int,ints,lexD,rB,rI]⟩
 .have:i=l.length+1:=by omega
  subst this;refine zas mixed ?_
  have hn:¬(l.length:Int)+1<=l.length:=by omega
  simp+decide[rH,int,lexD,hn];have L:ztb l id kind=rOut l (rN l id kind (l.length+1)).1 l.length:=rfl
  generalize (rN l id kind (l.length+1)).1=seen at L n1 ⊢;refine zae mixed (λk:Nat=>{n:=110,next:=4,slots:=[(0,.d (lexD l)),(7,.ar 1),(16,.ar 3),(17,.d (int k))],own:=[(1,.arr 4 1 (rB seen)),(3,.arr 3 1 (rI (rOut l seen k)))],moved:=[3]}) (λk=>k<=l.length) (λk=>l.length-k) 0 (by simp) (by simp+decide[int,ints,lexD,rB,rI,rOut]) ?_
  intro k H0;have H1:=z8v l seen k;by_cases F:k<l.length
  .have M:(k:Int)<l.length:=by omega
   have Z:k<seen.length:=by omega
   have O:(k:Int)<seen.length:=by omega
   have hsn:=ye7 l seen k;obtain⟨e,ee⟩:∃ e,l[k]=e:=⟨_,rfl⟩;have e1:l[k]?=some e:=by rw[List.getElem?_eq_getElem F,ee]
   obtain⟨b,eb⟩:∃ b,seen[k]=b:=⟨_,rfl⟩;have eb1:seen[k]?=some b:=by rw[List.getElem?_eq_getElem Z,eb]
   rw[e1,eb1] at hsn;cases b with
   |false=>
    simp only[Option.getD_some,Bool.false_eq_true,if_false,List.append_nil] at hsn;simp+decide[int,ints,lexD,rB,F,M,Z,O,ee,e1,eb,eb1,I64];exact⟨⟨by omega,by omega⟩,k+1,F,by omega,by omega,by rw[hsn]⟩
   |true=>
    simp only[Option.getD_some,if_true,Option.map_some] at hsn;simp+decide[int,ints,lexD,rB,rI,Ent.row,F,M,Z,O,ee,e1,eb,eb1,I64];exact⟨by omega,by unfold maxLen;omega,⟨by omega,by omega⟩,k+1,F,by omega,by omega,by rw[hsn];simp⟩
  .have:k=l.length:=by omega
   subst this;rw[L];simp+decide[int,ints,lexD,rI]
theorem zwg(l:List Ent)(id kind:Int):(ztb l id kind).length<=l.length:=z8v _ _ _
theorem ybb(l:List Ent)(T:l.length<=5)(V:∀ e∈l,e.links.length<=12):zf7 Tryz.prog 91 [lexD l] IsI:=by
 refine za3 mixed Tryz.func91 rfl c_91 ?_
 simp+decide[Tryz.f91,int,lexD]
 refine zae mixed (λi:Nat=>{n:=91,next:=0,slots:=[(0,.d (lexD l)),(3,.d (int i))],own:=[]}) (λi=>i<=l.length) (λi=>l.length-i) 0 (by simp) (by simp+decide[int,lexD]) ?_
 intro i hi
 by_cases F:i<l.length
 .have H:(i:Int)<l.length:=by omega
  have M:=V l[i] (List.getElem_mem F);obtain⟨e,ee⟩:∃ e,l[i]=e:=⟨_,rfl⟩;have e1:l[i]?=some e:=by rw[List.getElem?_eq_getElem F,ee]
  rw[ee] at M;simp+decide[int,lexD,H];refine zae mixed (λk:Nat=>{n:=91,next:=0,slots:=[(0,.d (lexD l)),(3,.d (int i)),(4,.d (int k))],own:=[]}) (λk=>k<=e.links.length) (λk=>e.links.length-k) 0 (by simp) (by simp+decide[int,lexD]) ?_
  intro k Q;by_cases J:k<e.links.length
  .have E:(k:Int)<e.links.length:=by omega
   obtain⟨x,ex⟩:∃ x,e.links[k]=x:=⟨_,rfl⟩;have ex1:e.links[k]?=some x:=by rw[List.getElem?_eq_getElem J,ex]
   simp+decide[int,lexD,Ent.row,lnkD,Lnk.row,F,H,ee,e1,J,E,ex,ex1];refine zai.pure (by rfl) (zqm x.kind) (by simp[int]) ?_
   by_cases c1:invC x.kind<0
   .simp+decide[int,c1]
   simp+decide[int,lexD,c1];refine zai.pure (by rfl) (zs3 l x.dst (by omega)) (by simp[int,lexD]) ?_
   rcases zda l x.dst with⟨g1,g2⟩ | ⟨u,X,g1,g2⟩
   .simp+decide[int,g1]
   .have L:(u:Int)<l.length:=by omega
    have O:=V l[u] (List.getElem_mem X);obtain⟨y,ey⟩:∃ y,l[u]=y:=⟨_,rfl⟩;have ey1:l[u]?=some y:=by rw[List.getElem?_eq_getElem X,ey]
    rw[ey] at O;have Y:=yja y ⟨invC x.kind,e.id⟩ (by omega)
    rw[g1];simp+decide[int,lexD,Ent.row,lnkD,Lnk.row,F,H,ee,e1,X,L,ey,ey1];refine zaa (by rfl) (by rfl) (zqm x.kind) (by simp[int]) ?_
    simp+decide[int,lexD,Ent.row,lnkD,Lnk.row,F,H,ee,e1,X,L,ey,ey1];refine zaa (by rfl) (by rfl) Y (by simp[int,Ent.row,Lnk.row]) ?_
    cases Z:z02 y ⟨invC x.kind,e.id⟩ with
    |false=>simp+decide[int]
    |true=>
     simp+decide[int,I64,lexD];exact⟨⟨by omega,by omega⟩,k+1,J,by omega,by omega⟩
  .have E:¬(k:Int)<e.links.length:=by omega
   simp+decide[int,lexD,Ent.row,lnkD,F,H,ee,e1,E,I64];exact⟨⟨by omega,by omega⟩,i+1,F,by omega,by omega⟩
 .have H:¬(i:Int)<l.length:=by omega
  simp+decide[int,lexD,H];refine zae mixed (λi:Nat=>{n:=91,next:=0,slots:=[(0,.d (lexD l)),(7,.d (int i))],own:=[]}) (λi=>i<=l.length) (λi=>l.length-i) 0 (by simp) (by simp+decide[int,lexD]) ?_
  intro j A;by_cases K:j<l.length
  .have G:(j:Int)<l.length:=by omega
   obtain⟨e,ee⟩:∃ e,l[j]=e:=⟨_,rfl⟩;have e1:l[j]?=some e:=by rw[List.getElem?_eq_getElem K,ee]
   have r2:=zwg l e.id 2;have r4:=zwg l e.id 4;simp+decide[int,lexD,Ent.row,K,G,ee,e1];refine zaa (by rfl) (by rfl) (zwf l e.id 2 T V) (by simp[int,lexD]) ?_
   simp+decide[int,ints,lexD,Ent.row,K,G,ee,e1];refine zaa (by rfl) (by rfl) (ye5 (ztb l e.id 2) e.id (by omega)) (by simp[int,ints]) ?_
   by_cases m2:e.id∈ztb l e.id 2
   .simp+decide[int,m2]
   simp+decide[int,lexD,Ent.row,K,G,ee,e1,m2];refine zaa (by rfl) (by rfl) (zwf l e.id 4 T V) (by simp[int,lexD]) ?_
   simp+decide[int,ints,lexD,Ent.row,K,G,ee,e1,m2];refine zaa (by rfl) (by rfl) (ye5 (ztb l e.id 4) e.id (by omega)) (by simp[int,ints]) ?_
   by_cases m4:e.id∈ztb l e.id 4
   .simp+decide[int,m2,m4]
   .simp+decide[int,m2,m4,I64,lexD]
    exact⟨⟨by omega,by omega⟩,j+1,K,by omega,by omega⟩
  .have G:¬(j:Int)<l.length:=by omega
   simp+decide[int,lexD,G]
structure MainF(l:List Ent):Prop where
 main:∀ e∈l,e.main≠0->0<=zeb l e.main
 ends:∀ e∈l,(wayG l (l.length+1) e.id).length<=l.length
theorem ybc(l:List Ent)(J:l.length<=1048576):zf7 Tryz.prog 92 [lexD l] (λx=>∃ n,x=int n/\(n=0->MainF l)):=by
 refine za3 mixed Tryz.func92 rfl c_92 ?_
 simp+decide[Tryz.f92,int,lexD]
 refine zae mixed (λi:Nat=>{n:=44,next:=0,slots:=[(0,.d (lexD l)),(3,.d (int i))],own:=[]}) (λi=>i<=l.length/\∀ e∈l.take i,e.main≠0->0<=zeb l e.main) (λi=>l.length-i) 0 (by simp) (by simp+decide[int,lexD]) ?_
 intro i ⟨hi,L⟩
 by_cases H:i<l.length
 .have G:(i:Int)<l.length:=by omega
  obtain⟨e,ee⟩:∃ e,l[i]=e:=⟨_,rfl⟩;have e1:l[i]?=some e:=by rw[List.getElem?_eq_getElem H,ee]
  have hsn:=zao H;rw[ee] at hsn;have K:(e.main≠0->0<=zeb l e.main)->∀ x∈l.take (i+1),x.main≠0->0<=zeb l x.main:=by
   intro h x M;rw[hsn] at M;rcases List.mem_append.1 M with O | O
   .exact L x O
   .rw[List.mem_singleton] at O;rw[O];exact h
  by_cases Q:e.main=0
  .have T:=K (λh=>absurd Q h)
   simp+decide[int,lexD,Ent.row,H,G,ee,e1,Q,I64];exact⟨⟨by omega,by omega⟩,i+1,⟨H,T⟩,by omega,by omega⟩
  .simp+decide[int,lexD,Ent.row,H,G,ee,e1,Q,I64]
   refine zai.pure (by rfl) (zni l e.main (by omega)) (by simp[int,lexD]) ?_
   by_cases c1:zeb l e.main<0
   .simp+decide[int,c1]
   .have T:=K (λ_=>by omega)
    simp+decide[int,c1,I64,lexD];exact⟨⟨by omega,by omega⟩,i+1,⟨H,T⟩,by omega,by omega⟩
 .have:i=l.length:=by omega
  subst this;rw[List.take_length] at L;simp+decide[int,lexD];refine zae mixed (λi:Nat=>{n:=44,next:=0,slots:=[(0,.d (lexD l)),(4,.d (int i))],own:=[]}) (λi=>i<=l.length/\∀ e∈l.take i,(wayG l (l.length+1) e.id).length<=l.length) (λi=>l.length-i) 0 (by simp) (by simp+decide[int,lexD]) ?_
  intro j ⟨V,X⟩;by_cases F:j<l.length
  .have E:(j:Int)<l.length:=by omega
   obtain⟨e,ee⟩:∃ e,l[j]=e:=⟨_,rfl⟩;have e1:l[j]?=some e:=by rw[List.getElem?_eq_getElem F,ee]
   have hsn:=zao F;rw[ee] at hsn;simp+decide[int,lexD,Ent.row,F,E,ee,e1,I64];refine zai.pure (by rfl) (z8l l e.id (by omega)) (by simp[int,lexD]) ?_
   by_cases c1:l.length<(wayG l (l.length+1) e.id).length
   .have c1':(l.length:Int)<(wayG l (l.length+1) e.id).length:=by omega
    simp+decide[int,ints,lexD,c1,c1']
   .have c1':¬(l.length:Int)<(wayG l (l.length+1) e.id).length:=by omega
    simp+decide[int,ints,lexD,c1,c1',I64];refine⟨⟨by omega,by omega⟩,j+1,⟨F,λx M=>?_⟩,by omega,by omega⟩
    rw[hsn] at M;rcases List.mem_append.1 M with O | O
    .exact X x O
    .rw[List.mem_singleton] at O;rw[O];omega
  .have:j=l.length:=by omega
   subst this;rw[List.take_length] at X;simp+decide[int,lexD];exact⟨L,X⟩
theorem ybd{s:ByteArray}(h:zlv s=true):0<s.size/\s.size<=32:=by
 unfold zlv at h
 simp only[Bool.and_eq_true,decide_eq_true_eq] at h
 omega
structure UnitF(u:Grap):Prop where
 pos:0<u.graph.size
 size:u.graph.size<=32
 segs:1<=u.segs.length
 few:u.segs.length<=3
theorem z4x(s:ByteArray)(hs:s.size<=1048576):zf7 Tryz.prog 145 [.str s] (λx=>∃ b,x = .bool b/\(b=true->0<s.size/\s.size<=32)):=by
 refine za3 mixed Tryz.func145 rfl c_145 ?_
 simp+decide[Tryz.f145,int]
 refine zae mixed (λk:Nat=>{n:=16,next:=0,slots:=[(0,.d (.str s)),(3,.d (int k))],own:=[]})
  (λk=>k<=s.size) (λk=>s.size-k) 0 (by simp) (by simp+decide[int]) ?_
 intro k F
 by_cases G:k<s.size
 .have H:(k:Int)<s.size:=by omega
  have e1:byteAt s (k:Int)=(zal s k:Int):=zb1 s k
  by_cases b1:(zal s k:Int)=32
  .simp+decide[int,G,H,e1,b1]
  .simp+decide[int,G,H,e1,b1,I64]
   exact⟨⟨by omega,by omega⟩,k+1,G,by omega,by omega⟩
 .have H:¬(k:Int)<s.size:=by omega
  simp+decide[int,H];refine zai.pure (by rfl) (zta s hs) (by simp) ?_
  simp+decide[int];cases h:zlv s with
  |false=>exact .inl rfl
  |true=>exact .inr ⟨rfl,ybd h⟩
theorem ybe(inv:List Phon)(o:Orth)(Q:OrthC o)(i:Nat)(hi:i<o.units.length)(T:inv.length<2^40):zf7 Tryz.prog 144 [.agg [invD inv],.agg o.cells,int i] (λx=>∃ n,x=int n/\(n=0->∀ u,o.units[i]?=some u->UnitF u)):=by
 refine za3 mixed Tryz.func144 rfl c_144 ?_
 have M:(i:Int)<o.units.length:=by omega
 have V:=Q.units o.units[i] (List.getElem_mem hi)
 have O:=Q.few.1
 obtain⟨u,eu⟩:∃ u,o.units[i]=u:=⟨_,rfl⟩
 have eu1:o.units[i]?=some u:=by rw[List.getElem?_eq_getElem hi,eu]
 rw[eu] at V
 rw[eu1]
 simp+decide[Tryz.f144,int,Orth.cells,zaw,hi,M,eu,eu1,Grap.row]
 refine zai.some (by rfl) (z4x u.graph V.1) ?_
 rintro r ⟨b,rfl,F⟩
 cases b with
 |false=>simp+decide[int]
 |true=>
  have F:=F rfl;simp+decide[int];refine zae mixed (λk:Nat=>{n:=67,next:=3,slots:=[(2,.d (int i)),(3,.bp 0 0),(4,.bp 1 0),(7,.bp 2 0),(8,.d (int k))],own:=[(0,.box 24 [.d (invD inv)]),(1,.box 28 (o.cells.map .d)),(2,.box 143 [.d (.str u.graph),.d (ints u.segs)])]})
   (λk=>k<=i) (λk=>i-k) 0 (by simp) (by simp+decide[int,ints,Orth.cells,zaw,Grap.row]) ?_
  intro k X;by_cases E:k<i
  .have H:(k:Int)<i:=by omega
   have L:k<o.units.length:=by omega
   have K:(k:Int)<o.units.length:=by omega
   obtain⟨x,ex⟩:∃ x,o.units[k]=x:=⟨_,rfl⟩;have ex1:o.units[k]?=some x:=by rw[List.getElem?_eq_getElem L,ex]
   by_cases b1:x.graph=u.graph
   .simp+decide[int,ints,Orth.cells,zaw,Grap.row,E,H,L,K,ex,ex1,b1]
   .simp+decide[int,ints,Orth.cells,zaw,Grap.row,E,H,L,K,ex,ex1,b1,I64]
    first | exact λ_=>⟨⟨by omega,by omega⟩,k+1,E,by omega,by omega⟩ | exact⟨⟨by omega,by omega⟩,k+1,E,by omega,by omega⟩
  .have H:¬(k:Int)<i:=by omega
   by_cases c1:(u.segs.length:Int)<1
   .simp+decide[int,ints,Orth.cells,zaw,Grap.row,E,H,c1]
   .by_cases c2:(3:Int)<u.segs.length
    .simp+decide[int,ints,Orth.cells,zaw,Grap.row,E,H,c1,c2]
    .simp+decide[int,ints,Orth.cells,zaw,Grap.row,E,H,c1,c2]
     refine zae mixed (λm:Nat=>{n:=67,next:=3,slots:=[(2,.d (int i)),(3,.bp 0 0),(4,.bp 1 0),(7,.bp 2 0),(9,.d (int m))],own:=[(0,.box 24 [.d (invD inv)]),(1,.box 28 (o.cells.map .d)),(2,.box 143 [.d (.str u.graph),.d (ints u.segs)])]})
      (λm=>m<=u.segs.length) (λm=>u.segs.length-m) 0 (by simp) (by simp+decide[int,ints,Orth.cells,zaw,Grap.row]) ?_
     intro m Y;by_cases J:m<u.segs.length
     .have G:(m:Int)<u.segs.length:=by omega
      obtain⟨y,ey⟩:∃ y,u.segs[m]=y:=⟨_,rfl⟩;have ey1:u.segs[m]?=some y:=by rw[List.getElem?_eq_getElem J,ey]
      by_cases b1:y<1
      .simp+decide[int,ints,J,G,ey,ey1,b1]
      .by_cases b2:(inv.length:Int)<y
       .simp+decide[int,ints,invD,J,G,ey,ey1,b1,b2]
       .simp+decide[int,ints,invD,J,G,ey,ey1,b1,b2,I64]
        exact⟨⟨by omega,by omega⟩,m+1,J,by omega,by omega,by simp[Orth.cells,Sym.los,Sym.lo]⟩
     .have G:¬(m:Int)<u.segs.length:=by omega
      simp+decide[int,ints,G];exact⟨F.1,F.2,by omega,by omega⟩
theorem z4y(inv:List Phon)(o:Orth)(Y:OrthC o)(Z:inv.length<2^40):zf7 Tryz.prog 87 [.agg [invD inv],.agg o.cells] (λx=>∃ n,x=int n/\(n=0->∀ u∈o.units,UnitF u)):=by
 have Q:=Y.few
 refine za3 mixed Tryz.func87 rfl c_87 ?_
 simp+decide[Tryz.f87,int,Orth.cells]
 refine zai.pure (by rfl) (zow o.name (by have:=Y.name;omega)) (by simp) ?_
 cases X:nameP o.name with
 |false=>simp+decide[int]
 |true=>
  by_cases A:(100:Int)<o.units.length
  .simp+decide[int,zaw,A]
  simp+decide[int,zaw,A];refine zae mixed (λk:Nat=>{n:=79,next:=2,slots:=[(2,.bp 0 0),(3,.bp 1 0),(5,.d (int k))],own:=[(0,.box 24 [.d (invD inv)]),(1,.box 28 (o.cells.map .d))]})
   (λk=>k<=o.units.length/\∀ u∈o.units.take k,UnitF u) (λk=>o.units.length-k) 0 (by simp) (by simp+decide[int,zaw,Orth.cells]) ?_
  intro k ⟨B,M⟩;by_cases K:k<o.units.length
  .have G:(k:Int)<o.units.length:=by omega
   simp+decide[int,zaw,K,G,Orth.cells];refine zai.some (by rfl) (ybe inv o Y k K Z) ?_
   rintro r ⟨e,rfl,O⟩
   by_cases C:e=0
   .subst C
    simp+decide[int,I64];exact⟨⟨by omega,by omega⟩,k+1,⟨K,λu I=>by
     rw[zao K] at I;rcases List.mem_append.1 I with h | h
     .exact M u h
     .rw[List.mem_singleton] at h
      exact O rfl u (by rw[List.getElem?_eq_getElem K,h])⟩,by omega,by simp[Orth.cells,Sym.los,Sym.lo,zaw]⟩
   .simp+decide[int,C]
  .have G:¬(k:Int)<o.units.length:=by omega
   have:k=o.units.length:=by omega
   subst this;rw[List.take_length] at M;by_cases N:(100:Int)<o.letters.length
   .simp+decide[int,zaw,zd9,G,N,Orth.cells]
   simp+decide[int,zaw,zd9,G,N,Orth.cells];refine zae mixed (λx:Nat×List ByteArray=>{n:=79,next:=3,slots:=[(2,.bp 0 0),(3,.bp 1 0),(7,.ar 2),(8,.d (int x.1))],own:=[(0,.box 24 [.d (invD inv)]),(1,.box 28 (o.cells.map .d)),(2,.arr 9 1 (x.2.map λs=>[.str s]))],moved:=[2]})
    (λx=>x.1<=o.letters.length/\x.2.length<=x.1*1048576) (λx=>o.letters.length-x.1) (0,[]) (by simp) (by simp+decide[int,zaw,zd9,Orth.cells]) ?_
   rintro⟨i,seen⟩ ⟨hi,hs⟩
   simp only at hi hs
   by_cases F:i<o.letters.length
   .have H:(i:Int)<o.letters.length:=by omega
    have P:=Y.letters o.letters[i] (List.getElem_mem F);obtain⟨L,eL⟩:∃ L,o.letters[i]=L:=⟨_,rfl⟩;have eL1:o.letters[i]?=some L:=by rw[List.getElem?_eq_getElem F,eL]
    rw[eL] at P;by_cases S:L.length=0
    .simp+decide[int,zaw,zd9,Orth.cells,F,H,eL,eL1,S]
    have T:¬(L.length:Int)=0:=by omega
    simp+decide[int,zaw,zd9,Orth.cells,F,H,eL,eL1,S,T];refine zae mixed (λx:Nat×List ByteArray=>{n:=79,next:=3,slots:=[(2,.bp 0 0),(3,.bp 1 0),(7,.ar 2),(8,.d (int i)),(9,.d (int x.1))],own:=[(0,.box 24 [.d (invD inv)]),(1,.box 28 (o.cells.map .d)),(2,.arr 9 1 (x.2.map λs=>[.str s]))],moved:=[2]})
     (λx=>x.1<=L.length/\x.2.length<=i*1048576+x.1) (λx=>L.length-x.1) (0,seen) (by simpa using hs) (by simp+decide[int,zaw,zd9,Orth.cells]) ?_
    rintro⟨m,sn⟩ ⟨W,V⟩
    simp only at W V
    by_cases J:m<L.length
    .have E:(m:Int)<L.length:=by omega
     have hS:=P.2 L[m] (List.getElem_mem J);obtain⟨y,ey⟩:∃ y,L[m]=y:=⟨_,rfl⟩;have ey1:L[m]?=some y:=by rw[List.getElem?_eq_getElem J,ey]
     rw[ey] at hS;simp+decide[int,zaw,zd9,Orth.cells,F,H,eL,eL1,J,E,ey,ey1];refine zai.some (by rfl) (ya0 y hS) ?_
     rintro r ⟨b,rfl⟩
     cases b with
     |false=>simp+decide[int]
     |true=>
      simp+decide[int];refine zai.some (by rfl) (yi5 sn y (by omega)) ?_
      rintro r ⟨b,rfl⟩
      cases b with
      |true=>simp+decide[int]
      |false=>
       simp+decide[int,I64];exact⟨by omega,by unfold maxLen;omega,⟨by omega,by omega⟩,m+1,sn++[y],⟨J,by rw[List.length_append];simp;omega⟩,by omega,by omega,by simp⟩
    .have E:¬(m:Int)<L.length:=by omega
     simp+decide[int,zaw,zd9,Orth.cells,F,H,eL,eL1,E,I64];exact⟨⟨by omega,by omega⟩,i+1,sn,⟨F,by omega⟩,by omega,by omega,rfl⟩
   .have H:¬(i:Int)<o.letters.length:=by omega
    simp+decide[int,zaw,zd9,H,Orth.cells];exact M
structure SmallL(l:List Ent):Prop where
 few:l.length<=5
 forms:∀ e∈l,e.form.length<=3/\e.alts.length<=1/\∀ w∈e.alts,w.length<=3
theorem ybf(l:List Ent)(J:l.length<=1048576):zf7 Tryz.prog 38 [lexD l] (λx=>∃ b,x = .bool b/\(b=true->SmallL l)):=by
 refine za3 mixed Tryz.func38 rfl c_38 ?_
 by_cases L:(5:Int)<l.length
 .simp+decide[Tryz.f38,int,lexD,L]
 simp+decide[Tryz.f38,int,lexD,L]
 refine zae mixed (λi:Nat=>{n:=50,next:=0,slots:=[(0,.d (lexD l)),(3,.d (int i))],own:=[]}) (λi=>i<=l.length/\∀ e∈l.take i,e.form.length<=3/\e.alts.length<=1/\∀ w∈e.alts,w.length<=3) (λi=>l.length-i) 0 (by simp) (by simp+decide[int,lexD]) ?_
 intro i ⟨hi,M⟩
 by_cases G:i<l.length
 .have H:(i:Int)<l.length:=by omega
  obtain⟨e,ee⟩:∃ e,l[i]=e:=⟨_,rfl⟩;have e1:l[i]?=some e:=by rw[List.getElem?_eq_getElem G,ee]
  have hsn:=zao G;rw[ee] at hsn;by_cases c1:(3:Int)<e.form.length
  .simp+decide[int,ints,lexD,Ent.row,G,H,ee,e1,c1]
  by_cases c2:(1:Int)<e.alts.length
  .simp+decide[int,ints,lexD,zcb,Ent.row,G,H,ee,e1,c1,c2]
  simp+decide[int,ints,lexD,zcb,Ent.row,G,H,ee,e1,c1,c2];refine zae mixed (λk:Nat=>{n:=50,next:=0,slots:=[(0,.d (lexD l)),(3,.d (int i)),(4,.d (int k))],own:=[]}) (λk=>k<=e.alts.length/\∀ w∈e.alts.take k,w.length<=3) (λk=>e.alts.length-k) 0 (by simp) (by simp+decide[int,lexD]) ?_
  intro k ⟨O,Q⟩;by_cases F:k<e.alts.length
  .have E:(k:Int)<e.alts.length:=by omega
   obtain⟨w,ew⟩:∃ w,e.alts[k]=w:=⟨_,rfl⟩;have ew1:e.alts[k]?=some w:=by rw[List.getElem?_eq_getElem F,ew]
   have K:=zao F;rw[ew] at K;by_cases c3:(3:Int)<w.length
   .simp+decide[int,ints,lexD,zcb,Ent.row,G,H,ee,e1,F,E,ew,ew1,c3]
   .simp+decide[int,ints,lexD,zcb,Ent.row,G,H,ee,e1,F,E,ew,ew1,c3,I64]
    refine⟨⟨by omega,by omega⟩,k+1,⟨F,λx T=>?_⟩,by omega,by omega⟩
    rw[K] at T;rcases List.mem_append.1 T with V | V
    .exact Q x V
    .rw[List.mem_singleton] at V;rw[V];omega
  .have:k=e.alts.length:=by omega
   subst this;rw[List.take_length] at Q;simp+decide[int,ints,lexD,zcb,Ent.row,G,H,ee,e1,I64];refine⟨⟨by omega,by omega⟩,i+1,⟨G,λx T=>?_⟩,by omega,by omega⟩
   rw[hsn] at T;rcases List.mem_append.1 T with V | V
   .exact M x V
   .rw[List.mem_singleton] at V;rw[V];exact⟨by omega,by omega,Q⟩
 .have:i=l.length:=by omega
  subst this;rw[List.take_length] at M;simp+decide[int,lexD];exact⟨by omega,M⟩
structure LangC(g:Lang):Prop where
 inv:InvC g.inv
 orth:OrthC g.orth
 rules:RulesC g.rules
 steps:g.net.steps.length<=1048576
 final:g.net.final.length<=1048576
 lex:LexC g.lex
structure RightF(g:Lang):Prop where
 rules:∀ r∈g.rules,RuleL r
 dsts:∀ r∈g.rules,DstF g.inv r
 net:NetF g.net
 lex:LexF g.inv g.lex
 main:MainF g.lex
 units1:∀ u∈g.orth.units,UnitF u
theorem RightF.graphs{g:Lang}(h:RightF g):∀ u∈g.orth.units,0<u.graph.size:=λu H=>(h.units1 u H).pos
theorem ybg(g:Lang)(G:LangC g)(F:g.lex.length<=5):zf7 Tryz.prog 39 [g.d] (λx=>∃ n,x=int n/\(n=0->RightF g)):=by
 have H:=G.inv.1
 refine za3 mixed Tryz.func39 rfl c_39 ?_
 simp+decide[Tryz.f39,int,Lang.d]
 refine zai.some (by rfl) (ya1 g.inv G.inv) ?_
 rintro r ⟨n,rfl⟩
 by_cases z1:n=0
 case neg=>simp+decide[int,z1]
 simp+decide[int,z1]
 refine zai.some (by rfl) (z4y g.inv g.orth G.orth (by omega)) ?_
 rintro r ⟨n,rfl,E⟩
 by_cases z2:n=0
 case neg=>simp+decide[int,z2]
 have E:=E z2
 simp+decide[int,z2]
 refine zai.some (by rfl) (ya4 g G.rules) ?_
 rintro r ⟨n,rfl,K⟩
 by_cases z3:n=0
 case neg=>simp+decide[int,z3]
 have K:=K z3
 simp+decide[int,z3]
 refine zai.some (by rfl) (ya5 g.net G.steps G.final) ?_
 rintro r ⟨n,rfl,J⟩
 by_cases z4:n=0
 case neg=>simp+decide[int,z4]
 have J:=J z4
 simp+decide[int,z4]
 refine zai.some (by rfl) (yba g.inv g.lex G.lex) ?_
 rintro r ⟨n,rfl,L⟩
 by_cases z5:n=0
 case neg=>simp+decide[int,z5]
 have L:=L z5
 simp+decide[int,z5]
 refine zai.some (by rfl) (ybb g.lex F λe M=>(L.each e M).links) ?_
 rintro r ⟨n,rfl⟩
 by_cases z6:n=0
 case neg=>simp+decide[int,z6]
 simp+decide[int,z6]
 refine zai.some (by rfl) (ybc g.lex (by omega)) ?_
 rintro r ⟨n,rfl,O⟩
 simp+decide[int]
 exact λh=>⟨λr Q=>(K r Q).1,λr Q=>(K r Q).2,J,L,O h,E⟩
structure LightF(g:Lang):Prop extends RightF g where
 small:SmallL g.lex
 segs:g.inv.length<=8
 units:g.orth.units.length<=10
 few:g.rules.length<=2
 states:g.net.states<=3
 steps:g.net.steps.length<=6
 final:g.net.final.length<=3
theorem ybh(g:Lang)(K:LangC g):zf7 Tryz.prog 12 [g.d] (λx=>∃ b,x = .bool b/\(b=true->LightF g)):=by
 have F:=K.lex.few
 have E:=K.rules.few
 refine za3 mixed Tryz.func12 rfl c_12 ?_
 by_cases c1:(8:Int)<g.inv.length
 .simp+decide[Tryz.f12,int,Lang.d,invD,c1]
 by_cases c2:(10:Int)<g.orth.units.length
 .simp+decide[Tryz.f12,int,Lang.d,invD,zaw,c1,c2]
 by_cases c3:(2:Int)<g.rules.length
 .simp+decide[Tryz.f12,int,Lang.d,invD,zaw,zco,c1,c2,c3]
 by_cases c4:3<g.net.states
 .simp+decide[Tryz.f12,int,Lang.d,invD,zaw,zco,c1,c2,c3,c4]
 by_cases c5:(6:Int)<g.net.steps.length
 .simp+decide[Tryz.f12,int,Lang.d,invD,zaw,zco,stepsD,c1,c2,c3,c4,c5]
 by_cases c6:(3:Int)<g.net.final.length
 .simp+decide[Tryz.f12,int,ints,Lang.d,invD,zaw,zco,stepsD,c1,c2,c3,c4,c5,c6]
 simp+decide[Tryz.f12,int,ints,Lang.d,invD,zaw,zco,stepsD,c1,c2,c3,c4,c5,c6]
 refine zai.some (by rfl) (ybf g.lex F) ?_
 rintro r ⟨b,rfl,J⟩
 cases b with
 |false=>simp+decide[int]
 |true=>
  have J:=J rfl;simp+decide[int];refine zae mixed (λk:Nat=>{n:=66,next:=1,slots:=[(1,.bp 0 0),(3,.d (int k))],own:=[(0,.box 36 (zaz g.d))]})
   (λk=>k<=g.rules.length) (λk=>g.rules.length-k) 0 (by simp) (by simp+decide[int,ints,invD,zaw,zco,stepsD,zaz,Lang.d]) ?_
  intro k L;by_cases G:k<g.rules.length
  .have H:(k:Int)<g.rules.length:=by omega
   obtain⟨r,er⟩:∃ r,g.rules[k]=r:=⟨_,rfl⟩;have er1:g.rules[k]?=some r:=by rw[List.getElem?_eq_getElem G,er]
   by_cases d1:(8:Int)<r.src.length
   .simp+decide[int,ints,zco,zaz,Lang.d,G,H,er,er1,Rule.row,d1]
   .simp+decide[int,ints,zco,zaz,Lang.d,G,H,er,er1,Rule.row,d1,I64]
    exact⟨⟨by omega,by omega⟩,k+1,G,by omega,by omega⟩
  .have H:¬(k:Int)<g.rules.length:=by omega
   simp+decide[int,zco,zaz,Lang.d,H];refine zai.some (by rfl) (ybg g K J.few) ?_
   rintro r ⟨n,rfl,M⟩
   simp+decide[int];by_cases z:n=0
   .exact .inr ⟨z,M z,J,by omega,by omega,by omega,by omega,by omega,by omega⟩
   .exact .inl z
theorem LightF.net'{g:Lang}(h:LightF g):NetL g.net:=
 {lo:=h.net.lo,hi:=h.states,steps:=λs hs=>⟨(h.net.steps s hs).1,(h.net.steps s hs).2.1,(h.net.steps s hs).2.2.1⟩,final:=h.net.final,few:=by have:=h.steps;omega,few2:=by have:=h.final;omega}
theorem LightF.yjb{g:Lang}(h:LightF g)(G:LangC g):LangR g:=by
 have hs:=h.small
 have H:∀ e∈g.lex,∀ w∈e.forms,WordF g.inv w:=by
  intro e F w E;have K:=h.lex.each e F;rcases List.mem_cons.1 E with e1 | e1
  .rw[e1];exact K.form
  .exact K.alts w e1
 refine {lex:=⟨by have:=hs.few;omega,λe F=>by have:=(hs.forms e F).2.1;omega,λe F w E=>by have:=(H e F w E).len;omega,λe F=>by have:=(G.lex.each e F).senses.1;omega⟩,inv:=by have:=h.segs;omega,rules:=⟨λr J=>(h.rules r J).toRuleOk,by have:=h.few;omega⟩,net:=h.net'.ok,light:=h.net',rulesL:=h.rules,nz:=λe F w E x L=>?_}
 have:=(H e F w E).segs x L
 simp only[zgj,Bool.and_eq_true,decide_eq_true_eq] at this
 omega
end Go.V
namespace Go.V
open Go Go.Proofs
section
variable (g:Lang) (w:List Int)
def ypd(base:List Int):Bool:=decide (zgl g.inv g.rules base≠[])&&decide (zgl g.inv g.rules base=w)
end
end Go.V
namespace Go.V
open Go Go.Proofs
def keyS(base:List Int):ByteArray:=⟨(base.map λx=>UInt8.ofNat (IntKind.u8.wrap x).toNat).toArray⟩
def yn9(g:Lang)(w:List Int)(tr:List (List Int)):List (List D):=tr.map λb=>[.str (keyS b),.bool (ypd g w b)]
def yoa(g:Lang)(w:List Int)(tr:List (List Int))(fn:Sym)(rest:List (Nat×Obj')):List (Nat×Obj'):=
 (0,.box 327 (zaz g.d++[.d (ints w),.d (.bool (yil g.rules)),.d (u32 (zc9 g.net.final)),.mp 1,fn]))::(1,.map 325 (yn9 g w tr))::rest
structure RestOk(n:Nat)(fn:Sym)(rest:List (Nat×Obj')):Prop where
 two:2<=n
 keys:(rest.map (·.1)).Nodup
 ids:∀ id o,(id,o)∈rest->2<=id/\id<n/\o.lo n
 range:0::1::rest.map (·.1)=List.range n
 thawed:∀ k x,n<=k->zcm k x rest=rest
 thawC:∀ k x,n<=k->thaw k x fn=fn
 fn:Sym.lo n fn
end Go.V
namespace Go.V
open Go Go.Proofs
section
variable {ρ:Nat->Nat} {m:Nat}
mutual
theorem yjc(h:∀ i,i<m->ρ i=i):∀ {s:Sym},Sym.lo m s->ren ρ s=s
 |.bp i o,hl=>by simp only[Sym.lo] at hl;simp only[ren,h i hl]
 |.ar i,hl=>by simp only[Sym.lo] at hl;simp only[ren,h i hl]
 |.ap i s j o,hl=>by simp only[Sym.lo] at hl;simp only[ren,h i hl]
 |.aS i s j o,hl=>by simp only[Sym.lo] at hl;simp only[ren,h i hl]
 |.av i s j o,hl=>by simp only[Sym.lo] at hl;simp only[ren,h i hl]
 |.yd i,hl=>by simp only[Sym.lo] at hl;simp only[ren,h i hl]
 |.mp i,hl=>by simp only[Sym.lo] at hl;simp only[ren,h i hl]
 |.tup l,hl=>by simp only[Sym.lo] at hl;simp only[ren,znt h hl]
 |.agg l,hl=>by simp only[Sym.lo] at hl;simp only[ren,znt h hl]
 |.fn f l,hl=>by simp only[Sym.lo] at hl;simp only[ren,znt h hl]
 |.d x,_=>rfl
 |.nils,_=>rfl
 |.junk,_=>rfl
theorem znt(h:∀ i,i<m->ρ i=i):∀ {l:List Sym},Sym.los m l->rens ρ l=l
 | [],_=>rfl
 |s::l,hl=>by
  simp only[Sym.los] at hl;simp only[rens,yjc h hl.1,znt h hl.2]
end
mutual
theorem ybi:∀ (s:Sym),za8 [] s=s
 |.bp _ _=>by simp[za8]
 |.ar _=>by simp[za8]
 |.ap _ _ _ _=>by simp[za8]
 |.aS _ _ _ _=>by simp[za8]
 |.av _ _ _ _=>by simp[za8]
 |.yd _=>by simp[za8]
 |.mp _=>by simp[za8]
 |.tup l=>by simp[za8,zir l]
 |.agg l=>by simp[za8,zir l]
 |.fn f l=>by simp[za8,zir l]
 |.d _=>by simp[za8]
 |.nils=>by simp[za8]
 |.junk=>by simp[za8]
theorem zir:∀ (l:List Sym),zc3 [] l=l
 | []=>by simp[zc3]
 |s::l=>by simp[zc3,ybi s,zir l]
end
end
mutual
theorem yjd{k m:Nat}(h:m<=k):∀ {s:Sym},Sym.lo m s->za2 k s=s
 |.bp i o,hl=>by simp only[Sym.lo] at hl;simp only[za2];rw[if_neg (by omega)]
 |.ar i,hl=>by simp only[Sym.lo] at hl;simp only[za2];rw[if_neg (by omega)]
 |.ap i s j o,hl=>by simp only[Sym.lo] at hl;simp only[za2];rw[if_neg (by omega)]
 |.aS i s j o,hl=>by simp only[Sym.lo] at hl;simp only[za2];rw[if_neg (by omega)]
 |.av i s j o,hl=>by simp only[Sym.lo] at hl;simp only[za2];rw[if_neg (by omega)]
 |.yd i,hl=>by simp only[Sym.lo] at hl;simp only[za2];rw[if_neg (by omega)]
 |.mp i,hl=>by simp only[Sym.lo] at hl;simp only[za2];rw[if_neg (by omega)]
 |.tup l,hl=>by simp only[Sym.lo] at hl;simp only[za2,znu h hl]
 |.agg l,hl=>by simp only[Sym.lo] at hl;simp only[za2,znu h hl]
 |.fn f l,hl=>by simp only[Sym.lo] at hl;simp only[za2,znu h hl]
 |.d x,_=>rfl
 |.nils,_=>rfl
 |.junk,_=>rfl
theorem znu{k m:Nat}(h:m<=k):∀ {l:List Sym},Sym.los m l->zby k l=l
 | [],_=>rfl
 |s::l,hl=>by
  simp only[Sym.los] at hl;simp only[zby,yjd h hl.1,znu h hl.2]
end
end Go.V

/- Contracts and plain laws of this seat: part MF. It needs no conditions. -/
import Derived.Test.YtknekjalbninmaaGreatME
import Derived.Test.YtknekjalbninmaaGreatS3
import Derived.Test.YtknekjalbninmaaGreatSw
import Derived.Test.YtknekjalbninmaaGreatMB
import Derived.Test.YtknekjalbninmaaGreatMC
import Derived.Test.YtknekjalbninmaaGreatMD
import Derived.Test.YtknekjalbninmaaGreatMA
import Derived.Test.YtknekjalbninmaaGreatB1
set_option maxHeartbeats 32000000
set_option linter.unusedVariables false
set_option linter.unusedSimpArgs false
set_option linter.unusedSectionVars false
set_option maxRecDepth 100000
namespace Go.V
open Go
section
variable {P:Program} {ops:Array Oper} {Q:Exit->Act->World->Prop}
end
section
variable {P:Program} {x y:Nat} {l:List Oper}
variable {p q:List Nat} {st:St}
end
end Go.V
namespace Go.V
open Go Go.Proofs
section
variable {P:Program} {st:St} {Q:DE->St->Prop}
end
end Go.V
namespace Go.V
open Go Go.Proofs
def begB(s t:ByteArray):Bool:=decide (t.size<=s.size)&&decide (s.extract 0 t.size=t)
theorem z5a(s t:ByteArray)(hs:s.size<2^40):zan Tryz.prog 195 [.str s,.str t] (.bool (begB s t)):=by
 refine zab mixed Tryz.func195 rfl c_195 ?_
 unfold begB
 by_cases h:t.size<=s.size
 .have H:(t.size:Int)<=s.size:=by omega
  have G:((s.extract 0 t.size).toList==t.toList)=decide (s.extract 0 t.size=t):=by
   by_cases e:s.extract 0 t.size=t
   .rw[e];simp
   .rw[decide_eq_false e,beq_eq_false_iff_ne];exact λe'=>e (bytes_inj e')
  simp+decide[Tryz.f195,int,h,H,G]
 .have H:¬(t.size:Int)<=s.size:=by omega
  simp+decide[Tryz.f195,int,h,H]
def zfy(us:List Grap)(t:ByteArray):Nat->Option Nat
 |0=>none
 |k+1=>match us[k]? with
  |none=>zfy us t k
  |some u=>if begB t u.graph=true then (match zfy us t k with
    |none=>some k
    |some b=>if ((us[b]?.map λv=>v.graph.size).getD 0)<u.graph.size then some k else some b)
   else zfy us t k
def optI:Option Nat->Int
 |none=>-1
 |some b=>b
theorem zf4{us:List Grap}{t:ByteArray}:∀ {k b:Nat},zfy us t k=some b->b<k/\b<us.length
 |0,b,h=>by cases h
 |k+1,b,h=>by
  unfold zfy at h;split at h
  .exact⟨by have:=(zf4 h).1;omega,(zf4 h).2⟩
  .rename_i u F
   have H:k<us.length:=(List.getElem?_eq_some_iff.1 F).1
   split at h
   .split at h
    .obtain rfl:=Option.some.inj h;exact⟨by omega,H⟩
    .rename_i b' G
     split at h
     .obtain rfl:=Option.some.inj h;exact⟨by omega,H⟩
     .obtain rfl:=Option.some.inj h
      exact⟨by have:=(zf4 G).1;omega,(zf4 G).2⟩
   .exact⟨by have:=(zf4 h).1;omega,(zf4 h).2⟩
theorem z04(o:Orth)(T:OrthC o)(s:ByteArray)(hs:s.size<2^40):zan Tryz.prog 140 [.agg o.cells,.str s] (int (optI (zfy o.units s o.units.length))):=by
 have O:=T.few.1
 refine zab mixed Tryz.func140 rfl c_140 ?_
 simp+decide[Tryz.f140,int,Orth.cells]
 refine zax mixed (λk:Nat=>{n:=42,next:=1,slots:=[(1,.d (.str s)),(2,.bp 0 0),(5,.d (int (optI (zfy o.units s k)))),(6,.d (int k))],own:=[(0,.box 28 (o.cells.map .d))]})
  (λk=>k<=o.units.length) (λk=>o.units.length-k) 0 (Nat.zero_le _) ?_ ?_
 .simp+decide[int,zaw,Orth.cells,zfy,optI]
 intro k V
 refine zas mixed ?_
 by_cases G:k<o.units.length
 case neg=>
  have:k=o.units.length:=by omega
  subst this;simp+decide[int,zaw,Orth.cells]
 have F:(k:Int)<o.units.length:=by omega
 obtain⟨u,eu⟩:∃ u,o.units[k]=u:=⟨_,rfl⟩
 have eu1:o.units[k]?=some u:=by rw[List.getElem?_eq_getElem G,eu]
 have Q:=(T.units o.units[k] (List.getElem_mem G)).1
 rw[eu] at Q
 have X:=z5a s u.graph hs
 have H:zfy o.units s (k+1)=if begB s u.graph=true then (match zfy o.units s k with
    |none=>some k
    |some b=>if ((o.units[b]?.map λv=>v.graph.size).getD 0)<u.graph.size then some k else some b)
   else zfy o.units s k:=by rw[zfy,eu1]
 simp+decide[int,zaw,Orth.cells,G,F,eu,eu1,Grap.row]
 refine zai.pure (by rfl) X (by simp[D.scalar]) ?_
 cases Y:begB s u.graph with
 |false=>
  rw[Y,if_neg (by decide)] at H
  simp+decide[int,zaw,Orth.cells,G,F,eu,eu1,Grap.row,I64];exact⟨⟨by omega,by omega⟩,k+1,G,by omega,by rw[H],by omega⟩
 |true=>
  rw[Y,if_pos rfl] at H;cases K:zfy o.units s k with
  |none=>
   rw[K] at H;simp only at H
   simp+decide[int,zaw,Orth.cells,G,F,eu,eu1,Grap.row,I64,optI];exact⟨⟨by omega,by omega⟩,k+1,G,by omega,by rw[H],by omega⟩
  |some b=>
   have J:=(zf4 K).2;have E:(b:Int)<o.units.length:=by omega
   rw[K] at H;simp only at H
   obtain⟨v,ev⟩:∃ v,o.units[b]=v:=⟨_,rfl⟩;have ev1:o.units[b]?=some v:=by rw[List.getElem?_eq_getElem J,ev]
   rw[ev1] at H;simp only[Option.map_some,Option.getD_some] at H;have M:¬(b:Int)<0:=by omega
   by_cases Z:v.graph.size<u.graph.size
   .have L:(v.graph.size:Int)<u.graph.size:=by omega
    rw[if_pos Z] at H;simp+decide[int,zaw,Orth.cells,G,F,eu,eu1,Grap.row,I64,optI,J,E,ev,ev1,Z,L,M];exact⟨⟨by omega,by omega⟩,k+1,G,by omega,by rw[H],by omega⟩
   .have L:¬(v.graph.size:Int)<u.graph.size:=by omega
    rw[if_neg Z] at H;simp+decide[int,zaw,Orth.cells,G,F,eu,eu1,Grap.row,I64,optI,J,E,ev,ev1,Z,L,M];exact⟨⟨by omega,by omega⟩,k+1,G,by omega,by rw[H],by omega⟩
def zcy(us:List Grap)(s:ByteArray):Nat->Nat->List Nat×Nat
 |0,at_=>([],at_)
 |f+1,at_=>if at_<s.size then (match zfy us (s.extract at_ s.size) us.length with
   |none=>([],at_)
   |some b=>(b::(zcy us s f (at_+((us[b]?.map λv=>v.graph.size).getD 0))).1,(zcy us s f (at_+((us[b]?.map λv=>v.graph.size).getD 0))).2))
  else ([],at_)
theorem znv{us:List Grap}{t:ByteArray}:∀ {k b:Nat},zfy us t k=some b->∃ v,us[b]?=some v/\begB t v.graph=true
 |0,b,h=>by cases h
 |k+1,b,h=>by
  unfold zfy at h;split at h
  .exact znv h
  .rename_i u H
   split at h
   .rename_i G
    split at h
    .obtain rfl:=Option.some.inj h;exact⟨u,H,G⟩
    .rename_i b' hb'
     split at h
     .obtain rfl:=Option.some.inj h;exact⟨u,H,G⟩
     .obtain rfl:=Option.some.inj h;exact znv hb'
   .exact znv h
def zhh(l:List Nat):D:=.sl (l.map λ(n:Nat)=>[int (n:Int)])
theorem ybk(o:Orth)(X:OrthC o)(Y:∀ u∈o.units,0<u.graph.size)(s:ByteArray)(hs:s.size<2^30):zan Tryz.prog 82 [.agg o.cells,.str s] (.tup [zhh (zcy o.units s s.size 0).1,int (zcy o.units s s.size 0).2]):=by
 refine zab mixed Tryz.func82 rfl c_82 ?_
 obtain⟨T,eT⟩:∃ T,zcy o.units s s.size 0=T:=⟨_,rfl⟩
 rw[eT]
 simp+decide[Tryz.f82,int,Orth.cells]
 refine zax mixed (λx:List Nat×Nat=>{n:=37,next:=3,slots:=[(1,.d (.str s)),(2,.bp 0 0),(6,.ar 2),(7,.d (int x.2))],own:=[(0,.box 28 (o.cells.map .d)),(2,.arr 3 1 (x.1.map λ(n:Nat)=>[int (n:Int)]))],moved:=[2]})
  (λx=>x.2<=s.size/\x.1.length<=x.2/\∃ f,s.size-x.2<=f/\T=(x.1++(zcy o.units s f x.2).1,(zcy o.units s f x.2).2)) (λx=>s.size-x.2) ([],0) ⟨Nat.zero_le _,Nat.zero_le _,s.size,by omega,by rw[<-eT];rfl⟩ ?_ ?_
 .simp+decide[int,ints,Orth.cells]
 rintro⟨out,at_⟩ ⟨J,L,f,Z,A⟩
 simp only at J L Z A
 refine zas mixed ?_
 by_cases G:at_<s.size
 case neg=>
  have B:zcy o.units s f at_=([],at_):=by
   cases f with
   |zero=>rfl
   |succ f=>rw[zcy,if_neg G]
  rw[B,List.append_nil] at A;subst A;have H:¬(at_:Int)<s.size:=by omega
  simp+decide[int,ints,Orth.cells,G,H,zhh]
 have H:(at_:Int)<s.size:=by omega
 obtain⟨f,rfl⟩:∃ f',f=f'+1:=⟨f-1,by omega⟩
 rw[zcy,if_pos G] at A
 have C:=z04 o X (s.extract at_ s.size) (by simp;omega)
 simp+decide[int,ints,Orth.cells,G,H]
 refine⟨by omega,?_⟩
 refine zaa (by rfl) (by rfl) C (by simp[D.scalar]) ?_
 cases I:zfy o.units (s.extract at_ s.size) o.units.length with
 |none=>
  rw[I] at A;simp only[List.append_nil] at A;subst A;simp+decide[int,ints,Orth.cells,G,H,optI,zhh]
 |some b=>
  rw[I] at A;simp only at A
  obtain⟨v,N,F⟩:=znv I;have K:=(zf4 I).2;have E:(b:Int)<o.units.length:=by omega
  have M:o.units[b]=v:=by rw[List.getElem?_eq_getElem K] at N;exact Option.some.inj N
  have V:=Y v (List.mem_of_getElem? N);have O:at_+v.graph.size<=s.size:=by
   unfold begB at F;rw[Bool.and_eq_true,decide_eq_true_eq] at F;have:=F.1
   simp at this
   omega
  rw[N] at A;simp only[Option.map_some,Option.getD_some] at A;have Q:¬(b:Int)<0:=by omega
  simp+decide[int,ints,Orth.cells,zaw,G,H,optI,K,E,N,M,Q,Grap.row,I64];exact⟨by omega,by unfold maxLen;omega,⟨by omega,by omega⟩,out++[b],at_+v.graph.size,⟨O,by simp;omega,f,by omega,by rw[A,List.append_assoc];rfl⟩,by omega,by omega,by simp⟩
theorem zte{us:List Grap}{s:ByteArray}:∀ {f at_:Nat},∀ b∈(zcy us s f at_).1,b<us.length
 |0,_,b,h=>by cases h
 |f+1,at_,b,h=>by
  unfold zcy at h;split at h
  .split at h
   .cases h
   .rename_i c H
    rcases List.mem_cons.1 h with e | h
    .rw[e];exact(zf4 H).2
    .exact zte b h
  .cases h
theorem zpe{us:List Grap}{s:ByteArray}:∀ {f at_:Nat},(zcy us s f at_).1.length<=f
 |0,_=>Nat.le_refl _
 |f+1,at_=>by
  unfold zcy;split
  .split
   .exact Nat.zero_le _
   .rw[List.length_cons];exact Nat.succ_le_succ zpe
  .exact Nat.zero_le _
def zjl(us:List Grap)(l:List Nat):List Int:=l.flatMap λb=>(us[b]?.map λv=>v.segs).getD []
def zln(us:List Grap)(s:ByteArray):List Int×Int×Int:=
 if s.size=0 then ([],0,4) else if (zcy us s s.size 0).2<s.size then ([],(zcy us s s.size 0).2,20) else if 24<(zjl us (zcy us s s.size 0).1).length then ([],0,5) else (zjl us (zcy us s s.size 0).1,0,0)
theorem zwh{us:List Grap}{l:List Nat}{k b:Nat}{v:Grap}(h:k<l.length)(H:l[k]=b)(G:us[b]?=some v):zjl us (l.take (k+1))=zjl us (l.take k)++v.segs:=by
 unfold zjl
 rw[zao h,List.flatMap_append,List.flatMap_singleton,H,G]
 rfl
theorem ztf{us:List Grap}(hs:∀ u∈us,u.segs.length<=1048576):∀ l:List Nat,(zjl us l).length<=l.length*1048576
 | []=>by simp[zjl]
 |b::l=>by
  have ih:=ztf hs l;unfold zjl at ih ⊢;rw[List.flatMap_cons,List.length_append,List.length_cons];have:((us[b]?.map λv=>v.segs).getD []).length<=1048576:=by
   cases h:us[b]? with
   |none=>simp
   |some v=>exact hs v (List.mem_of_getElem? h)
  omega
theorem yfe(o:Orth)(Y:OrthC o)(Z:∀ u∈o.units,0<u.graph.size)(s:ByteArray)(hs:s.size<=1024):zan Tryz.prog 34 [.agg o.cells,.str s] (.tup [ints (zln o.units s).1,int (zln o.units s).2.1,int (zln o.units s).2.2]):=by
 have A:=ybk o Y Z s (by omega)
 have H:=λb=>zte (us:=o.units) (s:=s) (f:=s.size) (at_:=0) b
 have O:=zpe (us:=o.units) (s:=s) (f:=s.size) (at_:=0)
 refine zab mixed Tryz.func34 rfl c_34 ?_
 unfold zln
 generalize zcy o.units s s.size 0=T at A H O
 obtain⟨l,e⟩:=T
 simp only at A H O
 by_cases B:s.size=0
 .have C:s=ByteArray.empty:=ByteArray.ext (Array.eq_empty_of_size_eq_zero (by simpa using B))
  subst C;simp+decide[Tryz.f34,int,ints,Orth.cells]
 rw[if_neg B]
 have C:(s.toList==[] )=false:=by
  rw[beq_eq_false_iff_ne];intro e;have:s=ByteArray.empty:=bytes_inj (e.trans (by first | simp | (unfold ByteArray.toList;rw[ByteArray.toList.loop];rfl)))
  exact B (by rw[this];rfl)
 simp+decide[Tryz.f34,int,ints,Orth.cells,C]
 refine zai.pure (by rfl) A (by simp[D.scalar]) ?_
 by_cases I:e<s.size
 .have M:(e:Int)<s.size:=by omega
  simp+decide[int,ints,Orth.cells,I,M,zhh]
 have M:¬(e:Int)<s.size:=by omega
 rw[if_neg I]
 simp+decide[int,ints,Orth.cells,I,M,zhh]
 refine zax mixed (λk:Nat=>{n:=45,next:=3,slots:=[(2,.bp 0 0),(7,.d (zhh l)),(9,.ar 2),(10,.d (int k))],own:=[(0,.box 28 (o.cells.map .d)),(2,.arr 3 1 ((zjl o.units (l.take k)).map λn=>[int n]))],moved:=[2]})
  (λk=>k<=l.length) (λk=>l.length-k) 0 (Nat.zero_le _) ?_ ?_
 .simp+decide[int,ints,Orth.cells,zjl,zhh]
 intro k N
 refine zas mixed ?_
 by_cases F:k<l.length
 case neg=>
  have:k=l.length:=by omega
  subst this;rw[List.take_length];generalize zjl o.units l=W;by_cases Q:24<W.length
  .have G:(24:Int)<W.length:=by omega
   simp+decide[int,ints,Orth.cells,zhh,Q,G]
  .have G:¬(24:Int)<W.length:=by omega
   simp+decide[int,ints,Orth.cells,zhh,Q,G]
 have E:(k:Int)<l.length:=by omega
 obtain⟨b,eb⟩:∃ b,l[k]=b:=⟨_,rfl⟩
 have eb1:l[k]?=some b:=by rw[List.getElem?_eq_getElem F,eb]
 have J:b<o.units.length:=by rw[<-eb];exact H _ (List.getElem_mem F)
 have K:(b:Int)<o.units.length:=by omega
 obtain⟨v,ev⟩:∃ v,o.units[b]=v:=⟨_,rfl⟩
 have ev1:o.units[b]?=some v:=by rw[List.getElem?_eq_getElem J,ev]
 have X:=(Y.units o.units[b] (List.getElem_mem J)).2
 rw[ev] at X
 have V:=zwh (us:=o.units) F eb ev1
 have L:=ztf (us:=o.units) (λu P=>(Y.units u P).2) (l.take k)
 rw[List.length_take] at L
 have L:(zjl o.units (l.take k)).length<=1024*1048576:=Nat.le_trans L (Nat.mul_le_mul_right _ (by omega))
 generalize zjl o.units (l.take k)=W at V L
 simp+decide[int,ints,Orth.cells,zhh,zaw,Grap.row,F,E,eb,eb1,J,K,ev,ev1,I64]
 refine zjj mixed 10 (by rfl) (by rfl) (by rfl) (by rfl) (by simp) ?_
 simp+decide[int,ints,Orth.cells,zhh,zaw,Grap.row,F,E,eb,eb1,J,K,ev,ev1,I64]
 exact⟨by omega,by unfold maxLen;omega,⟨by omega,by omega⟩,k+1,F,by omega,by omega,by rw[V,List.map_append]⟩
def z05(us:List Grap):Nat:=us.foldl (λm u=>max m u.graph.size) 0
theorem ybl{us:List Grap}{k:Nat}{u:Grap}(h:k<us.length)(H:us[k]=u):z05 (us.take (k+1))=max (z05 (us.take k)) u.graph.size:=by
 unfold z05
 rw[zao h,List.foldl_append,H];rfl
theorem ybm(us:List Grap):∀ m,m<=us.foldl (λm u=>max m u.graph.size) m/\∀ u∈us,u.graph.size<=us.foldl (λm u=>max m u.graph.size) m:=by
 induction us with
 |nil=>intro m;exact⟨Nat.le_refl _,λu h=>by cases h⟩
 |cons v us ih=>
  intro m;obtain⟨H,h2⟩:=ih (max m v.graph.size);rw[List.foldl_cons];refine⟨by omega,λu G=>?_⟩
  rcases List.mem_cons.1 G with e | G
  .rw[e];omega
  .exact h2 u G
theorem yjk{us:List Grap}{u:Grap}(h:u∈us):u.graph.size<=z05 us:=(ybm us 0).2 u h
theorem yff{us:List Grap}{c:Nat}(h:∀ u∈us,u.graph.size<=c):∀ m,m<=c->us.foldl (λm u=>max m u.graph.size) m<=c:=by
 induction us with
 |nil=>intro m H;exact H
 |cons v us ih=>
  intro m H;rw[List.foldl_cons];exact ih (λu G=>h u (List.mem_cons_of_mem _ G)) _ (by have:=h v (List.mem_cons_self ..);omega)
theorem yfg{s t:ByteArray}{at_:Nat}(h:begB (s.extract at_ s.size) t=true):t.size<=s.size-at_:=by
 unfold begB at h
 rw[Bool.and_eq_true,decide_eq_true_eq] at h
 have:=h.1
 simp at this
 omega
theorem ymd{s:ByteArray}{at_ n:Nat}(h:at_+n<=s.size):(s.extract at_ s.size).extract 0 n=s.extract at_ (at_+n):=by
 rw[ByteArray.extract_extract]
 congr 1
 omega
theorem zyf{s t:ByteArray}{at_ n:Nat}(H:t.size=n)(h:at_+n<=s.size):begB (s.extract at_ s.size) t=true↔t=s.extract at_ (at_+n):=by
 unfold begB
 rw[Bool.and_eq_true,decide_eq_true_eq,decide_eq_true_eq,H,ymd h]
 constructor
 .rintro⟨_,e⟩;exact e.symm
 .intro e;exact⟨by rw[ByteArray.size_extract];omega,e.symm⟩
theorem zpf{us:List Grap}{t:ByteArray}(h:∀ u∈us,begB t u.graph=false):∀ {k:Nat},zfy us t k=none
 |0=>rfl
 |k+1=>by
  rw[zfy];cases H:us[k]? with
  |none=>exact zpf h
  |some u=>
   simp only
   rw[if_neg (by rw[h u (List.mem_of_getElem? H)];decide)]
   exact zpf h
theorem ztg{us:List Grap}{t:ByteArray}{i:Nat}{v:Grap}(Q:us[i]?=some v)(T:begB t v.graph=true)(H:∀ u∈us,begB t u.graph=true->u.graph.size<=v.graph.size)
  (G:∀ u∈us.take i,begB t u.graph=true->u.graph.size<v.graph.size):∀ {k:Nat},(k<=i->∀ b,zfy us t k=some b->∃ w∈us.take i,us[b]?=some w/\begB t w.graph=true)/\(i<k->zfy us t k=some i)
 |0=>⟨(by intro _ b h;cases h),(by intro h;omega)⟩
 |k+1=>by
  obtain⟨V,h2⟩:=ztg Q T H G (k:=k);have O:i<us.length:=(List.getElem?_eq_some_iff.1 Q).1
  constructor
  .intro X b h
   have K:k<us.length:=by omega
   have ek:us[k]?=some us[k]:=List.getElem?_eq_getElem K
   have E:us[k]∈us.take i:=List.mem_iff_getElem.2 ⟨k,by rw[List.length_take];omega,by rw[List.getElem_take]⟩
   rw[zfy,ek] at h;simp only at h
   split at h
   .rename_i F
    split at h
    .obtain rfl:=Option.some.inj h;exact⟨_,E,ek,F⟩
    .rename_i b' hb'
     split at h
     .obtain rfl:=Option.some.inj h;exact⟨_,E,ek,F⟩
     .obtain rfl:=Option.some.inj h;exact V (by omega) _ hb'
   .exact V (by omega) b h
  .intro X
   rw[zfy];by_cases J:k=i
   .subst J
    rw[Q];simp only
    rw[if_pos T];cases F:zfy us t k with
    |none=>rfl
    |some b=>
     simp only
     obtain⟨w,Y,ew,L⟩:=V (Nat.le_refl _) b F;rw[ew,Option.map_some,Option.getD_some,if_pos (G w Y L)]
   .rw[h2 (by omega)]
    cases Z:us[k]? with
    |none=>rfl
    |some u=>
     simp only
     split
     .rename_i M
      rw[Q,if_neg (by have:=H u (List.mem_of_getElem? Z) M;simp;omega)]
     .rfl
theorem ybn(o:Orth)(P:OrthC o)(S:∀ u∈o.units,0<u.graph.size)(s:ByteArray)(hs:s.size<2^30):zan Tryz.prog 169 [.agg o.cells,.str s] (.tup [zhh (zcy o.units s s.size 0).1,int (zcy o.units s s.size 0).2]):=by
 refine zab mixed Tryz.func169 rfl c_169 ?_
 have X:=P.few.1
 obtain⟨T,eT⟩:∃ T,zcy o.units s s.size 0=T:=⟨_,rfl⟩
 rw[eT]
 simp+decide[Tryz.f169,int,Orth.cells,zaw]
 refine zax mixed (λk:Nat=>{n:=68,next:=2,slots:=[(1,.d (.str s)),(2,.bp 0 0),(6,.d (int (z05 (o.units.take k)))),(15,.d (zaw o.units)),(16,.d (int o.units.length)),(17,.d (int k))],own:=[(0,.box 28 (o.cells.map .d))]})
  (λk=>k<=o.units.length) (λk=>o.units.length-k) 0 (Nat.zero_le _) ?_ ?_
 .simp+decide[int,zaw,Orth.cells,z05]
 intro k W
 refine zas mixed ?_
 by_cases G:k<o.units.length
 case pos=>
  have H:(k:Int)<o.units.length:=by omega
  obtain⟨u,eu⟩:∃ u,o.units[k]=u:=⟨_,rfl⟩;have eu1:o.units[k]?=some u:=by rw[List.getElem?_eq_getElem G,eu]
  have Y:=(P.units o.units[k] (List.getElem_mem G)).1;rw[eu] at Y;have hm:=ybl G eu;simp+decide[int,zaw,Orth.cells,G,H,eu,eu1,Grap.row,I64];refine⟨⟨by omega,by omega⟩,k+1,G,by omega,?_,by omega⟩
  rw[hm];split <;> omega
 have:k=o.units.length:=by omega
 subst this
 rw[List.take_length]
 simp+decide[int,zaw,Orth.cells]
 have Z:z05 o.units<=1048576:=yff (λu hu=>(P.units u hu).1) 0 (by omega)
 have V:=λu=>yjk (us:=o.units) (u:=u)
 generalize z05 o.units=most at Z V
 refine zax mixed (λx:List Nat×Nat=>{n:=68,next:=3,slots:=[(1,.d (.str s)),(2,.bp 0 0),(6,.d (int most)),(9,.ar 2),(10,.d (int x.2))],own:=[(0,.box 28 (o.cells.map .d)),(2,.arr 3 1 (x.1.map λ(n:Nat)=>[int (n:Int)]))],moved:=[2]})
  (λx=>x.2<=s.size/\x.1.length<=x.2/\∃ f,s.size-x.2<=f/\T=(x.1++(zcy o.units s f x.2).1,(zcy o.units s f x.2).2)) (λx=>s.size-x.2) ([],0) ⟨Nat.zero_le _,Nat.zero_le _,s.size,by omega,by rw[<-eT];rfl⟩ ?_ ?_
 .simp+decide[int,ints,Orth.cells,zaw]
 rintro⟨out,at_⟩ ⟨A,B,f,hf,hT⟩
 simp only at A B hf hT
 refine zas mixed ?_
 by_cases G:at_<s.size
 case neg=>
  have hu:zcy o.units s f at_=([],at_):=by
   cases f with
   |zero=>rfl
   |succ f=>rw[zcy,if_neg G]
  rw[hu,List.append_nil] at hT;subst hT;have H:¬(at_:Int)<s.size:=by omega
  simp+decide[int,ints,Orth.cells,G,H,zhh]
 have H:(at_:Int)<s.size:=by omega
 obtain⟨f,rfl⟩:∃ f',f=f'+1:=⟨f-1,by omega⟩
 rw[zcy,if_pos G] at hT
 simp+decide[int,ints,Orth.cells,zaw,G,H,I64]
 refine⟨by omega,?_⟩
 refine zax mixed (λn:Nat=>{n:=68,next:=3,slots:=[(1,.d (.str s)),(2,.bp 0 0),(6,.d (int most)),(9,.ar 2),(10,.d (int at_)),(11,.d (int n))],own:=[(0,.box 28 (o.cells.map .d)),(2,.arr 3 1 (out.map λ(n:Nat)=>[int (n:Int)]))],moved:=[2]})
  (λn=>n<=s.size-at_/\∀ u∈o.units,begB (s.extract at_ s.size) u.graph=true->u.graph.size<=n) (λn=>n) (min most (s.size-at_)) ⟨by omega,λu hu hb=>?_⟩ ?_ ?_
 .have h1:=V u hu
  have h2:=(yfg hb);omega
 .simp+decide[int,ints,Orth.cells,zaw]
  split <;> omega
 intro n ⟨hn,F⟩
 refine zas mixed ?_
 by_cases C:n=0
 .subst C
  have I:zfy o.units (s.extract at_ s.size) o.units.length=none:=zpf λu hu=>by
   cases hb:begB (s.extract at_ s.size) u.graph with
   |false=>rfl
   |true=>have:=F u hu hb;have:=S u hu;omega
  rw[I] at hT;simp only[List.append_nil] at hT;subst hT;simp+decide[int,ints,Orth.cells,zaw,zhh]
 have L:(0:Int)<n:=by omega
 have E:0<n:=by omega
 simp+decide[int,ints,Orth.cells,zaw,L,E]
 refine zax mixed (λi:Nat=>{n:=68,next:=3,slots:=[(1,.d (.str s)),(2,.bp 0 0),(6,.d (int most)),(9,.ar 2),(10,.d (int at_)),(11,.d (int n)),(42,.d (zaw o.units)),(43,.d (int o.units.length)),(44,.d (int i))],own:=[(0,.box 28 (o.cells.map .d)),(2,.arr 3 1 (out.map λ(n:Nat)=>[int (n:Int)]))],moved:=[2]})
  (λi=>i<=o.units.length/\∀ u∈o.units.take i,u.graph≠s.extract at_ (at_+n)) (λi=>o.units.length-i) 0 ⟨Nat.zero_le _,λu hu=>by simp at hu⟩ ?_ ?_
 .simp+decide[int,ints,Orth.cells,zaw]
 intro i ⟨hi,J⟩
 refine zas mixed ?_
 by_cases K:i<o.units.length
 case neg=>
  have:i=o.units.length:=by omega
  subst this;rw[List.take_length] at J;simp+decide[int,ints,Orth.cells,zaw,I64];refine⟨by omega,n-1,⟨by omega,λu hu hb=>?_⟩,by omega,by omega⟩
  have h1:=F u hu hb;have h2:u.graph.size≠n:=λe=>J u hu ((zyf e (by omega)).1 hb)
  omega
 have M:(i:Int)<o.units.length:=by omega
 obtain⟨u,eu⟩:∃ u,o.units[i]=u:=⟨_,rfl⟩
 have eu1:o.units[i]?=some u:=by rw[List.getElem?_eq_getElem K,eu]
 simp+decide[int,ints,Orth.cells,zaw,I64,K,M,eu,eu1,Grap.row]
 have O:((at_:Int)+(n:Int)).toNat=at_+n:=by omega
 rw[O]
 refine⟨by omega,⟨by omega,by omega⟩,λhe=>?_,λhe=>?_⟩
 .have he:u.graph=s.extract at_ (at_+n):=by first | exact bytes_inj he | exact he
  have Q:u.graph.size=n:=by rw[he,ByteArray.size_extract];omega
  have N:=(zyf Q (by omega)).2 he
  have hF:=(ztg (k:=o.units.length) eu1 N (λv hv hb=>by rw[Q];exact F v hv hb) (λv hv hb=>by
   have h1:=F v (List.mem_of_mem_take hv) hb;have h2:v.graph.size≠n:=λe=>J v hv ((zyf e (by omega)).1 hb)
   omega)).2 K
  rw[hF] at hT;simp only at hT
  rw[eu1,Option.map_some,Option.getD_some,Q] at hT;exact⟨by omega,by unfold maxLen;omega,by omega,out++[i],at_+n,⟨by omega,by simp;omega,f,by omega,by rw[hT,List.append_assoc];rfl⟩,by omega,by omega,by simp⟩
 .refine⟨by omega,i+1,⟨K,λv hv=>?_⟩,by omega,by omega⟩
  rw[zao K,eu] at hv;rcases List.mem_append.1 hv with h | h
  .exact J v h
  .rw[List.mem_singleton] at h
   rw[h];exact λe=>he (by rw[e])
theorem yfh(o:Orth)(Y:OrthC o)(Z:∀ u∈o.units,0<u.graph.size)(s:ByteArray)(hs:s.size<=1024):zan Tryz.prog 119 [.agg o.cells,.str s] (.tup [ints (zln o.units s).1,int (zln o.units s).2.1,int (zln o.units s).2.2]):=by
 have A:=ybn o Y Z s (by omega)
 have H:=λb=>zte (us:=o.units) (s:=s) (f:=s.size) (at_:=0) b
 have O:=zpe (us:=o.units) (s:=s) (f:=s.size) (at_:=0)
 refine zab mixed Tryz.func119 rfl c_119 ?_
 unfold zln
 generalize zcy o.units s s.size 0=T at A H O
 obtain⟨l,e⟩:=T
 simp only at A H O
 by_cases B:s.size=0
 .have C:s=ByteArray.empty:=ByteArray.ext (Array.eq_empty_of_size_eq_zero (by simpa using B))
  subst C;simp+decide[Tryz.f119,int,ints,Orth.cells]
 rw[if_neg B]
 have C:(s.toList==[] )=false:=by
  rw[beq_eq_false_iff_ne];intro e;have:s=ByteArray.empty:=bytes_inj (e.trans (by first | simp | (unfold ByteArray.toList;rw[ByteArray.toList.loop];rfl)))
  exact B (by rw[this];rfl)
 simp+decide[Tryz.f119,int,ints,Orth.cells,C]
 refine zai.pure (by rfl) A (by simp[D.scalar]) ?_
 by_cases I:e<s.size
 .have K:(e:Int)<s.size:=by omega
  simp+decide[int,ints,Orth.cells,I,K,zhh]
 have K:¬(e:Int)<s.size:=by omega
 rw[if_neg I]
 simp+decide[int,ints,Orth.cells,I,K,zhh]
 refine zax mixed (λk:Nat=>{n:=44,next:=3,slots:=[(2,.bp 0 0),(9,.ar 2),(25,.d (zhh l)),(26,.d (int l.length)),(27,.d (int k))],own:=[(0,.box 28 (o.cells.map .d)),(2,.arr 3 1 ((zjl o.units (l.take k)).map λn=>[int n]))],moved:=[2]})
  (λk=>k<=l.length) (λk=>l.length-k) 0 (Nat.zero_le _) ?_ ?_
 .simp+decide[int,ints,Orth.cells,zjl,zhh]
 intro k N
 refine zas mixed ?_
 by_cases F:k<l.length
 case neg=>
  have:k=l.length:=by omega
  subst this;rw[List.take_length];generalize zjl o.units l=W;by_cases Q:24<W.length
  .have G:(24:Int)<W.length:=by omega
   simp+decide[int,ints,Orth.cells,zhh,Q,G]
  .have G:¬(24:Int)<W.length:=by omega
   simp+decide[int,ints,Orth.cells,zhh,Q,G]
 have J:(k:Int)<l.length:=by omega
 obtain⟨b,eb⟩:∃ b,l[k]=b:=⟨_,rfl⟩
 have eb1:l[k]?=some b:=by rw[List.getElem?_eq_getElem F,eb]
 have L:b<o.units.length:=by rw[<-eb];exact H _ (List.getElem_mem F)
 have M:(b:Int)<o.units.length:=by omega
 obtain⟨v,ev⟩:∃ v,o.units[b]=v:=⟨_,rfl⟩
 have ev1:o.units[b]?=some v:=by rw[List.getElem?_eq_getElem L,ev]
 have X:=(Y.units o.units[b] (List.getElem_mem L)).2
 rw[ev] at X
 have V:=zwh (us:=o.units) F eb ev1
 have E:=ztf (us:=o.units) (λu P=>(Y.units u P).2) (l.take k)
 rw[List.length_take] at E
 have E:(zjl o.units (l.take k)).length<=1024*1048576:=Nat.le_trans E (Nat.mul_le_mul_right _ (by omega))
 generalize zjl o.units (l.take k)=W at V E
 simp+decide[int,ints,Orth.cells,zhh,zaw,Grap.row,F,J,eb,eb1,L,M,ev,ev1,I64]
 exact⟨by omega,by unfold maxLen;omega,⟨by omega,by omega⟩,k+1,F,by omega,by omega,by rw[V,List.map_append]⟩
theorem z06(us:List Grap)(s:ByteArray):(zln us s).1.length<=24:=by
 unfold zln
 split
 .exact Nat.zero_le _
 .split
  .exact Nat.zero_le _
  .split
   .exact Nat.zero_le _
   .rename_i h;exact Nat.le_of_not_lt h
theorem yoc(a b:List Int)(E:b.length<2^62):zan Tryz.prog 158 [ints a,ints b] (.bool (decide (a=b))):=by
 refine zab mixed Tryz.func158 rfl c_158 ?_
 simp[Tryz.f158,ints]
 refine⟨λh e=>h (by rw[e]),λh=>?_⟩
 refine zae mixed (λk:Nat=>{n:=26,next:=0,slots:=[(0,.d (ints a)),(1,.d (ints b)),(12,.d (.int .i64 a.length)),(13,.d (.int .i64 k))],own:=[]})
  (λk=>k<=a.length/\a.take k=b.take k) (λk=>a.length-k) 0 (by simp) (by simp[ints]) ?_
 intro k ⟨K,J⟩
 have h:a.length=b.length:=by omega
 by_cases G:k<a.length
 .have e1:a[k]?=some a[k]:=List.getElem?_eq_getElem G
  have e2:b[k]?=some (b[k]'(by omega)):=List.getElem?_eq_getElem (by omega)
  have H:k<b.length:=by omega
  simp+decide[ints,int,e1,e2,G,H,I64];refine⟨λF e=>by subst e;simp at F,λhe=>⟨by omega,k+1,⟨G,?_⟩,by omega,by omega⟩⟩
  rw[zao G,zao H,J,he]
 .have:k=a.length:=by omega
  subst this;simp+decide[ints];rw[List.take_length,h,List.take_length] at J;exact J
def begW(w s:List Int):Bool:=decide (s.length<=w.length)&&decide (s=w.take s.length)
def zgn(us:List Grap)(w:List Int):Nat->Option Nat
 |0=>none
 |k+1=>match us[k]? with
  |none=>zgn us w k
  |some u=>if begW w u.segs=true then (match zgn us w k with
    |none=>some k
    |some b=>if ((us[b]?.map λv=>v.segs.length).getD 0)<u.segs.length then some k else some b)
   else zgn us w k
theorem zg7{us:List Grap}{w:List Int}:∀ {k b:Nat},zgn us w k=some b->∃ v,us[b]?=some v/\begW w v.segs=true
 |0,b,h=>by cases h
 |k+1,b,h=>by
  unfold zgn at h;split at h
  .exact zg7 h
  .rename_i u H
   split at h
   .rename_i G
    split at h
    .obtain rfl:=Option.some.inj h;exact⟨u,H,G⟩
    .rename_i b' hb'
     split at h
     .obtain rfl:=Option.some.inj h;exact⟨u,H,G⟩
     .obtain rfl:=Option.some.inj h
      exact zg7 hb'
   .exact zg7 h
theorem yfi(o:Orth)(V:OrthC o)(w:List Int)(X:w.length<2^40):zan Tryz.prog 99 [.agg o.cells,ints w] (int (optI (zgn o.units w o.units.length))):=by
 have O:=V.few.1
 refine zab mixed Tryz.func99 rfl c_99 ?_
 simp+decide[Tryz.f99,int,ints,zaw,Orth.cells]
 refine zax mixed (λk:Nat=>{n:=51,next:=1,slots:=[(1,.d (ints w)),(2,.bp 0 0),(5,.d (int (optI (zgn o.units w k)))),(9,.d (zaw o.units)),(10,.d (int o.units.length)),(11,.d (int k))],own:=[(0,.box 28 (o.cells.map .d))]})
  (λk=>k<=o.units.length) (λk=>o.units.length-k) 0 (Nat.zero_le _) ?_ ?_
 .simp+decide[int,ints,zaw,Orth.cells,zgn,optI]
 intro k Y
 refine zas mixed ?_
 by_cases G:k<o.units.length
 case neg=>
  have:k=o.units.length:=by omega
  subst this;simp+decide[int,ints,zaw,Orth.cells]
 have F:(k:Int)<o.units.length:=by omega
 obtain⟨u,eu⟩:∃ u,o.units[k]=u:=⟨_,rfl⟩
 have eu1:o.units[k]?=some u:=by rw[List.getElem?_eq_getElem G,eu]
 have Q:=(V.units o.units[k] (List.getElem_mem G)).2
 rw[eu] at Q
 have H:zgn o.units w (k+1)=if begW w u.segs=true then (match zgn o.units w k with
    |none=>some k
    |some b=>if ((o.units[b]?.map λv=>v.segs.length).getD 0)<u.segs.length then some k else some b)
   else zgn o.units w k:=by rw[zgn,eu1]
 by_cases c1:w.length<u.segs.length
 .have c1':(w.length:Int)<u.segs.length:=by omega
  have Z:begW w u.segs=false:=by unfold begW;rw[decide_eq_false (by omega)];rfl
  rw[Z,if_neg (by decide)] at H
  simp+decide[int,ints,zaw,Orth.cells,G,F,eu,eu1,Grap.row,I64,c1,c1'];exact⟨by omega,k+1,G,by omega,by rw[H],by omega⟩
 have c1':¬(w.length:Int)<u.segs.length:=by omega
 have A:=yoc u.segs (w.take u.segs.length) (by rw[List.length_take];omega)
 have T:begW w u.segs=decide (u.segs=w.take u.segs.length):=by unfold begW;rw[decide_eq_true (by omega)];rfl
 have c2:u.segs.length<=w.length:=by omega
 have c2':(u.segs.length:Int)<=w.length:=by omega
 rw[<-T] at A
 simp only[ints,List.map_take] at A
 simp+decide[int,ints,zaw,Orth.cells,G,F,eu,eu1,Grap.row,I64,c1,c1',c2,c2']
 refine zaa (by rfl) (by rfl) A (by simp[D.scalar]) ?_
 cases Z:begW w u.segs with
 |false=>
  rw[Z,if_neg (by decide)] at H
  simp+decide[int,ints,zaw,Orth.cells,G,F,eu,eu1,Grap.row,I64];exact⟨by omega,k+1,G,by omega,by rw[H],by omega⟩
 |true=>
  rw[Z,if_pos rfl] at H;cases K:zgn o.units w k with
  |none=>
   rw[K] at H;simp only at H
   simp+decide[int,ints,zaw,Orth.cells,G,F,eu,eu1,Grap.row,I64,optI];exact⟨by omega,k+1,G,by omega,by rw[H],by omega⟩
  |some b=>
   obtain⟨v,ev1,_⟩:=zg7 K;obtain⟨L,ev⟩:=List.getElem?_eq_some_iff.1 ev1;have E:(b:Int)<o.units.length:=by omega
   rw[K] at H;simp only at H
   rw[ev1] at H;simp only[Option.map_some,Option.getD_some] at H;have M:¬(b:Int)<0:=by omega
   by_cases B:v.segs.length<u.segs.length
   .have J:(v.segs.length:Int)<u.segs.length:=by omega
    rw[if_pos B] at H;simp+decide[int,ints,zaw,Orth.cells,G,F,eu,eu1,Grap.row,I64,optI,L,E,ev,ev1,B,J,M];exact⟨by omega,k+1,G,by omega,by rw[H],by omega⟩
   .have J:¬(v.segs.length:Int)<u.segs.length:=by omega
    rw[if_neg B] at H;simp+decide[int,ints,zaw,Orth.cells,G,F,eu,eu1,Grap.row,I64,optI,L,E,ev,ev1,B,J,M];exact⟨by omega,k+1,G,by omega,by rw[H],by omega⟩
theorem yfj(s:ByteArray)(hs:s.size<2^40):
  zbl Tryz.prog 100 [.bp 0 0,.d (.str s)] [(0,.box 166 [.d (.val (.pointer none)),.nils])] 1 (.tup [.d (int s.size),.d (.val .nilIface)]) 2 [(1,.arr 5 1 (za5 s)),(0,.box 166 [.bp 0 0,.ar 1])] [1]:=by
 have H:zbl Tryz.prog 159 [.bp 0 0] [(0,.box 166 [.d (.val (.pointer none)),.nils])] 1 (.d (.tup [])) 1 [(0,.box 166 [.bp 0 0,.nils])] []:=ztn (by rfl) zxu
 refine za6 mixed Tryz.func100 rfl c_100 (by simp[Sym.los,Sym.lo]) ?_
 simp+decide[Tryz.f100,int]
 refine zai.mut [0] [.bp 0 0] [(0,.box 166 [.d (.val (.pointer none)),.nils])] (by rfl) (by simp) (by simp) (by simp) H ?_
 simp+decide[int,maxLen]
 exact⟨by omega,by omega⟩
theorem yfk(s:ByteArray)(rows:List (List D))(hs:rows.length+s.size<2^40):
  zbl Tryz.prog 100 [.bp 0 0,.d (.str s)] [(0,.box 166 [.bp 0 0,.ar 1]),(1,.arr 5 1 rows)] 2 (.tup [.d (int s.size),.d (.val .nilIface)]) 2 [(0,.box 166 [.bp 0 0,.ar 1]),(1,.arr 5 1 (rows++za5 s))] [1]:=by
 have H:zbl Tryz.prog 159 [.bp 0 0] [(0,.box 166 [.bp 0 0,.ar 1]),(1,.arr 5 1 rows)] 2 (.d (.tup [])) 2 [(0,.box 166 [.bp 0 0,.ar 1]),(1,.arr 5 1 rows)] []:=zyl (by rfl) z3z _ _ _
 refine za6 mixed Tryz.func100 rfl c_100 (by simp[Sym.los,Sym.lo]) ?_
 simp+decide[Tryz.f100,int]
 refine zai.mut [0,1] [.bp 0 0] [(0,.box 166 [.bp 0 0,.ar 1]),(1,.arr 5 1 rows)] (by rfl) (by simp) (by simp) (by simp;rfl) H ?_
 simp+decide[int,maxLen]
 exact⟨by omega,by omega⟩
theorem ymf(s:ByteArray)(hs:s.size≠0):
  zbl Tryz.prog 101 [.bp 0 0] [(0,.box 166 [.bp 0 0,.ar 1]),(1,.arr 5 1 (za5 s))] 2 (.d (.str s)) 2 [] []:=zwl Tryz.yk3 bldX (by rfl) s hs
theorem z5b(a b:ByteArray):za5 (a++b)=za5 a++za5 b:=by
 unfold za5
 simp[ByteArray.data_append]
def zgo(us:List Grap)(w:List Int):Nat->Nat->ByteArray->ByteArray×Int×Int
 |0,_,_=>(.empty,0,0)
 |f+1,at_,acc=>if at_<w.length then (match zgn us (w.drop at_) us.length with
   |none=>(.empty,at_,20)
   |some b=>zgo us w f (at_+((us[b]?.map λv=>v.segs.length).getD 0)) (acc++((us[b]?.map λv=>v.graph).getD .empty)))
  else (acc,0,0)
def zcu(us:List Grap)(w:List Int):ByteArray×Int×Int:=
 if w.length=0 then (.empty,0,4) else if 24<w.length then (.empty,0,5) else zgo us w (w.length+1) 0 .empty
theorem zqn{us:List Grap}(G:∀ u∈us,UnitF u){w:List Int}:∀ {f at_:Nat} {acc:ByteArray},acc.size<=32*at_->at_<=w.length->(zgo us w f at_ acc).1.size<=32*w.length
 |0,_,_,_,_=>by simp[zgo]
 |f+1,at_,acc,h,hat=>by
  unfold zgo;split
  .split
   .simp
   .rename_i b F
    obtain⟨v,E,H⟩:=zg7 F;have K:=G v (List.mem_of_getElem? E);have J:v.segs.length<=(w.drop at_).length:=by
     unfold begW at H;rw[Bool.and_eq_true,decide_eq_true_eq] at H;exact H.1
    rw[List.length_drop] at J;rw[E];refine zqn G ?_ ?_
    .have:=K.size;have:=K.segs
     rw[ByteArray.size_append];simp only[Option.map_some,Option.getD_some];omega
    .simp only[Option.map_some,Option.getD_some]
     omega
  .have:acc.size<=32*w.length:=by omega
   exact this
theorem zth{us:List Grap}(H:∀ u∈us,UnitF u)(w:List Int):(zcu us w).1.size<=768:=by
 unfold zcu
 split
 .simp
 .split
  .simp
  .have:=zqn H (w:=w) (f:=w.length+1) (at_:=0) (acc:=.empty) (by simp) (by omega)
   omega
theorem yjl(o:Orth)(P:OrthC o)(S:∀ u∈o.units,UnitF u)(w:List Int)(W:w.length<2^40):
  zan Tryz.prog 43 [.agg o.cells,ints w] (.tup [.str (zcu o.units w).1,int (zcu o.units w).2.1,int (zcu o.units w).2.2]):=by
 refine zab mixed Tryz.func43 rfl c_43 ?_
 by_cases c0:w.length=0
 .have:w=[]:=List.eq_nil_of_length_eq_zero c0
  subst this;simp+decide[Tryz.f43,int,ints,Orth.cells,zcu]
 have c0':¬(w.length:Int)=0:=by omega
 by_cases c1:24<w.length
 .have c1':(24:Int)<w.length:=by omega
  have T:zcu o.units w=(.empty,0,5):=by unfold zcu;rw[if_neg c0,if_pos c1]
  rw[T];simp+decide[Tryz.f43,int,ints,Orth.cells,c0,c0',c1,c1']
 have c1':¬(24:Int)<w.length:=by omega
 have T:zcu o.units w=zgo o.units w (w.length+1) 0 .empty:=by unfold zcu;rw[if_neg c0,if_neg c1]
 simp+decide[Tryz.f43,int,ints,Orth.cells,c0,c0',c1,c1']
 refine zax mixed (λx:Bool×Nat×Nat×ByteArray=>if x.1=true
   then {n:=45,next:=2,slots:=[(1,.d (ints w)),(2,.bp 0 0),(7,.bp 1 0),(8,.d (int x.2.2.1))],own:=[(0,.box 28 (o.cells.map .d)),(1,.box 166 [.d (.val (.pointer none)),.nils])]}
   else {n:=45,next:=3,slots:=[(1,.d (ints w)),(2,.bp 0 0),(7,.bp 1 0),(8,.d (int x.2.2.1))],own:=[(0,.box 28 (o.cells.map .d)),(1,.box 166 [.bp 1 0,.ar 2]),(2,.arr 5 1 (za5 x.2.2.2))],moved:=[2]})
  (λx=>x.2.2.1<=w.length/\w.length<x.2.2.1+x.2.1/\zgo o.units w x.2.1 x.2.2.1 x.2.2.2=zcu o.units w/\x.2.2.2.size<=32*x.2.2.1/\(x.1=true->x.2.2.1=0/\x.2.2.2 = .empty)/\(x.1=false->x.2.2.2.size≠0)) (λx=>w.length-x.2.2.1)
  (true,w.length+1,0,.empty) ⟨by simp,by simp,T.symm,by simp,by simp,by simp⟩ ?_ ?_
 .simp+decide[int,ints,Orth.cells]
 rintro⟨fr,f,at_,acc⟩ ⟨J,hf,F,A,V,Y⟩
 simp only at J hf F A V Y
 refine zas mixed ?_
 obtain⟨f,rfl⟩:∃ f',f=f'+1:=⟨f-1,by omega⟩
 unfold zgo at F
 by_cases G:at_<w.length
 case neg=>
  have H:¬(at_:Int)<w.length:=by omega
  rw[if_neg G] at F;cases fr with
  |true=>have:=(V rfl).1;omega
  |false=>
   rw[<-F];simp+decide[int,ints,G,H,Orth.cells];refine zai.mut [1,2] [.bp 0 0] [(0,.box 166 [.bp 0 0,.ar 1]),(1,.arr 5 1 (za5 acc))] (by rfl) (by simp) (by simp) (by simp;rfl) (ymf acc (Y rfl)) ?_
   simp+decide[int]
 rw[if_pos G] at F
 have H:(at_:Int)<w.length:=by omega
 have hU:=yfi o P (w.drop at_) (by rw[List.length_drop];omega)
 simp only[ints,List.map_drop] at hU
 have M:List.take w.length (w.map λn=>[D.int .i64 n])=w.map λn=>[D.int .i64 n]:=List.take_of_length_le (by simp)
 cases hb:zgn o.units (w.drop at_) o.units.length with
 |none=>
  rw[hb] at F hU;simp only at F
  simp only[optI] at hU;rw[<-F];cases fr with
  |true=>
   simp+decide[int,ints,G,H,J,M,Orth.cells];refine zaa (by rfl) (by rfl) hU (by simp[D.scalar,Orth.cells]) ?_
   simp+decide[int,ints,G,H,Orth.cells]
  |false=>
   simp+decide[int,ints,G,H,J,M,Orth.cells];refine zaa (by rfl) (by rfl) hU (by simp[D.scalar,Orth.cells]) ?_
   simp+decide[int,ints,G,H,Orth.cells]
 |some b=>
  obtain⟨v,ev1,K⟩:=zg7 hb;obtain⟨O,ev⟩:=List.getElem?_eq_some_iff.1 ev1;have E:(b:Int)<o.units.length:=by omega
  have Q:¬(b:Int)<0:=by omega
  have hF:=S v (List.mem_of_getElem? ev1);have B:=hF.size;have C:=hF.pos;have I:=hF.segs;have N:v.segs.length<=w.length-at_:=by
   unfold begW at K;rw[Bool.and_eq_true,decide_eq_true_eq,List.length_drop] at K;exact K.1
  rw[hb] at F hU;simp only[ev1,Option.map_some,Option.getD_some] at F;simp only[optI] at hU;have L:(acc++v.graph).size<=32*(at_+v.segs.length):=by rw[ByteArray.size_append];omega
  have Z:(acc++v.graph).size≠0:=by rw[ByteArray.size_append];omega
  cases fr with
  |true=>
   obtain⟨h0,X⟩:=V rfl;subst X;simp+decide[int,ints,G,H,J,M,Orth.cells];refine zaa (by rfl) (by rfl) hU (by simp[D.scalar,Orth.cells]) ?_
   simp+decide[int,ints,G,H,Orth.cells,zaw,Grap.row,O,E,ev,ev1,Q];refine zai.mut [1] [.bp 0 0,.d (.str v.graph)] [(0,.box 166 [.d (.val (.pointer none)),.nils])] (by rfl) (by simp) (by simp) (by simp) (yfj v.graph (by omega)) ?_
   simp+decide[int,ints,G,H,Orth.cells,zaw,Grap.row,O,E,ev,ev1,Q,I64];exact⟨⟨by omega,by omega⟩,f,at_+v.segs.length,ByteArray.empty++v.graph,⟨by omega,by omega,F,L,λe=>Z (by rw[e];rfl)⟩,by omega,by omega,by simp⟩
  |false=>
   simp+decide[int,ints,G,H,J,M,Orth.cells];refine zaa (by rfl) (by rfl) hU (by simp[D.scalar,Orth.cells]) ?_
   simp+decide[int,ints,G,H,Orth.cells,zaw,Grap.row,O,E,ev,ev1,Q];refine zai.mut [1,2] [.bp 0 0,.d (.str v.graph)] [(0,.box 166 [.bp 0 0,.ar 1]),(1,.arr 5 1 (za5 acc))] (by rfl) (by simp) (by simp) (by simp;rfl) (yfk v.graph (za5 acc) (by rw[zi2];omega)) ?_
   simp+decide[int,ints,G,H,Orth.cells,zaw,Grap.row,O,E,ev,ev1,Q,I64];exact⟨⟨by omega,by omega⟩,f,at_+v.segs.length,acc++v.graph,⟨by omega,by omega,F,L,λe=>Z (by rw[e];rfl)⟩,by omega,by omega,(z5b _ _).symm⟩
theorem yfl(w:List Int)(at_:Nat)(u:Grap)(J:w.length<2^40)(K:at_<=w.length)(hs:u.segs.length<2^40):zan Tryz.prog 108 [ints w,int at_,.agg u.row] (.bool (begW (w.drop at_) u.segs)):=by
 refine zab mixed Tryz.func108 rfl c_108 ?_
 by_cases c1:w.length-at_<u.segs.length
 .have c1':(w.length:Int)-at_<u.segs.length:=by omega
  have L:begW (w.drop at_) u.segs=false:=by unfold begW;rw[List.length_drop,decide_eq_false (by omega)];rfl
  simp+decide[Tryz.f108,int,ints,Grap.row,L,c1,c1',I64];exact⟨by omega,by omega⟩
 have c1':¬(w.length:Int)-at_<u.segs.length:=by omega
 simp+decide[Tryz.f108,int,ints,Grap.row,c1,c1',I64]
 refine⟨⟨by omega,by omega⟩,?_⟩
 refine zax mixed (λk:Nat=>{n:=35,next:=1,slots:=[(0,.d (ints w)),(1,.d (int at_)),(5,.bp 0 0),(7,.d (int k))],own:=[(0,.box 143 [.d (.str u.graph),.d (ints u.segs)])]})
  (λk=>k<=u.segs.length/\u.segs.take k=(w.drop at_).take k) (λk=>u.segs.length-k) 0 ⟨Nat.zero_le _,by simp⟩ ?_ ?_
 .simp+decide[int,ints]
 rintro k ⟨M,O⟩
 refine zas mixed ?_
 by_cases H:k<u.segs.length
 .have G:(k:Int)<u.segs.length:=by omega
  have E:at_+k<w.length:=by omega
  have F:(at_:Int)+k<w.length:=by omega
  have e1:u.segs[k]?=some u.segs[k]:=List.getElem?_eq_getElem H
  have e2:w[at_+k]?=some w[at_+k]:=List.getElem?_eq_getElem E
  have jn:((at_:Int)+k).toNat=at_+k:=by omega
  have Q:(w.drop at_)[k]?=some w[at_+k]:=by rw[List.getElem?_drop,e2]
  have j0:¬((at_:Int)+k<0):=by omega
  by_cases T:w[at_+k]=u.segs[k]
  .simp+decide[int,ints,H,G,E,F,e1,e2,jn,j0,T,I64]
   refine⟨⟨by omega,by omega⟩,by omega,⟨by omega,by omega⟩,k+1,⟨H,?_⟩,by omega,by omega⟩
   rw[List.take_add_one,List.take_add_one,O,e1,Q,T]
  .have L:begW (w.drop at_) u.segs=false:=by
    unfold begW;rw[Bool.and_eq_false_iff];right
    refine decide_eq_false λe=>T ?_
    have:=congrArg (λl=>l[k]?) e
    simp only[List.getElem?_take,if_pos H,Q,e1,Option.some.injEq] at this;exact this.symm
   simp+decide[int,ints,H,G,E,F,e1,e2,jn,j0,T,L,I64];exact⟨⟨by omega,by omega⟩,by omega⟩
 .have:k=u.segs.length:=by omega
  subst this;rw[List.take_length] at O;have L:begW (w.drop at_) u.segs=true:=by
   unfold begW;rw[List.length_drop,decide_eq_true (by omega),<-O,decide_eq_true rfl];rfl
  simp+decide[int,ints,L]
theorem z5c(o:Orth)(S:OrthC o)(W:∀ u∈o.units,UnitF u)(w:List Int)(hw:w.length<2^40):
  zan Tryz.prog 48 [.agg o.cells,ints w] (.tup [.str (zcu o.units w).1,int (zcu o.units w).2.1,int (zcu o.units w).2.2]):=by
 have A:=S.few.1
 refine zab mixed Tryz.func48 rfl c_48 ?_
 by_cases c0:w.length=0
 .have:w=[]:=List.eq_nil_of_length_eq_zero c0
  subst this;simp+decide[Tryz.f48,int,ints,Orth.cells,zcu]
 have c0':¬(w.length:Int)=0:=by omega
 by_cases c1:24<w.length
 .have c1':(24:Int)<w.length:=by omega
  have V:zcu o.units w=(.empty,0,5):=by unfold zcu;rw[if_neg c0,if_pos c1]
  rw[V];simp+decide[Tryz.f48,int,ints,Orth.cells,c0,c0',c1,c1']
 have c1':¬(24:Int)<w.length:=by omega
 have V:zcu o.units w=zgo o.units w (w.length+1) 0 .empty:=by unfold zcu;rw[if_neg c0,if_neg c1]
 simp+decide[Tryz.f48,int,ints,Orth.cells,c0,c0',c1,c1']
 refine zax mixed (λx:Nat×Nat×ByteArray=>{n:=79,next:=1,slots:=[(1,.d (ints w)),(2,.bp 0 0),(7,.d (.str x.2.2)),(8,.d (int x.2.1))],own:=[(0,.box 28 (o.cells.map .d))]})
  (λx=>x.2.1<=w.length/\w.length<x.2.1+x.1/\zgo o.units w x.1 x.2.1 x.2.2=zcu o.units w/\x.2.2.size<=32*x.2.1) (λx=>w.length-x.2.1)
  (w.length+1,0,.empty) ⟨by simp,by simp,V.symm,by simp⟩ ?_ ?_
 .simp+decide[int,ints,Orth.cells]
 rintro⟨f,at_,acc⟩ ⟨Z,hf,K,B⟩
 simp only at Z hf K B
 refine zas mixed ?_
 obtain⟨f,rfl⟩:∃ f',f=f'+1:=⟨f-1,by omega⟩
 unfold zgo at K
 by_cases T:at_<w.length
 case neg=>
  have J:¬(at_:Int)<w.length:=by omega
  rw[if_neg T] at K;rw[<-K];simp+decide[int,ints,T,J,Orth.cells]
 rw[if_pos T] at K
 have J:(at_:Int)<w.length:=by omega
 simp+decide[int,ints,T,J,Orth.cells]
 refine zax mixed (λk:Nat=>{n:=79,next:=1,slots:=[(1,.d (ints w)),(2,.bp 0 0),(7,.d (.str acc)),(8,.d (int at_)),(9,.d (int (optI (zgn o.units (w.drop at_) k)))),(10,.d (int k))],own:=[(0,.box 28 (o.cells.map .d))]})
  (λk=>k<=o.units.length) (λk=>o.units.length-k) 0 (Nat.zero_le _) ?_ ?_
 .simp+decide[int,ints,Orth.cells,zgn,optI]
 intro k hk
 refine zas mixed ?_
 by_cases F:k<o.units.length
 .have G:(k:Int)<o.units.length:=by omega
  obtain⟨u,eu⟩:∃ u,o.units[k]=u:=⟨_,rfl⟩;have eu1:o.units[k]?=some u:=by rw[List.getElem?_eq_getElem F,eu]
  have C:=(W o.units[k] (List.getElem_mem F)).few;rw[eu] at C;have hS:=yfl w at_ u hw Z (by omega)
  have H:zgn o.units (w.drop at_) (k+1)=if begW (w.drop at_) u.segs=true then (match zgn o.units (w.drop at_) k with
    |none=>some k
    |some b=>if ((o.units[b]?.map λv=>v.segs.length).getD 0)<u.segs.length then some k else some b)
   else zgn o.units (w.drop at_) k:=by simp only[zgn,eu1] <;> rfl
  cases hb:begW (w.drop at_) u.segs with
  |false=>
   rw[hb] at H hS;rw[if_neg (by decide)] at H
   simp+decide[int,ints,zaw,Orth.cells,F,G,eu,eu1,Grap.row,I64];refine zaa (by rfl) (by rfl) hS (by simp[D.scalar,Grap.row]) ?_
   simp+decide[int,ints,zaw,Orth.cells,F,G,eu,eu1,Grap.row,I64];exact⟨by omega,k+1,F,by omega,by rw[H],by omega⟩
  |true=>
   rw[hb] at H hS;rw[if_pos rfl] at H;cases X:zgn o.units (w.drop at_) k with
   |none=>
    rw[X] at H;simp only at H
    simp+decide[int,ints,zaw,Orth.cells,F,G,eu,eu1,Grap.row,I64,optI];refine zaa (by rfl) (by rfl) hS (by simp[D.scalar,Grap.row]) ?_
    simp+decide[int,ints,zaw,Orth.cells,F,G,eu,eu1,Grap.row,I64,optI];exact⟨by omega,k+1,F,by omega,by rw[H],by omega⟩
   |some b=>
    obtain⟨v,ev1,_⟩:=zg7 X;obtain⟨M,ev⟩:=List.getElem?_eq_some_iff.1 ev1;have E:(b:Int)<o.units.length:=by omega
    rw[X] at H;simp only at H
    rw[ev1] at H;simp only[Option.map_some,Option.getD_some] at H;have O:¬(b:Int)<0:=by omega
    by_cases hc:v.segs.length<u.segs.length
    .have Q:(v.segs.length:Int)<u.segs.length:=by omega
     rw[if_pos hc] at H;simp+decide[int,ints,zaw,Orth.cells,F,G,eu,eu1,Grap.row,I64,optI,M,E,ev,ev1,hc,Q,O];refine zaa (by rfl) (by rfl) hS (by simp[D.scalar,Grap.row]) ?_
     simp+decide[int,ints,zaw,Orth.cells,F,G,eu,eu1,Grap.row,I64,optI,M,E,ev,ev1,hc,Q,O];exact⟨by omega,k+1,F,by omega,by rw[H],by omega⟩
    .have Q:¬(v.segs.length:Int)<u.segs.length:=by omega
     rw[if_neg hc] at H;simp+decide[int,ints,zaw,Orth.cells,F,G,eu,eu1,Grap.row,I64,optI,M,E,ev,ev1,hc,Q,O];refine zaa (by rfl) (by rfl) hS (by simp[D.scalar,Grap.row]) ?_
     simp+decide[int,ints,zaw,Orth.cells,F,G,eu,eu1,Grap.row,I64,optI,M,E,ev,ev1,hc,Q,O];exact⟨by omega,k+1,F,by omega,by rw[H],by omega⟩
 .have:k=o.units.length:=by omega
  subst this;cases hb:zgn o.units (w.drop at_) o.units.length with
  |none=>
   rw[hb] at K;simp only at K
   rw[<-K];simp+decide[int,ints,zaw,Orth.cells,optI]
  |some b=>
   obtain⟨v,ev1,L⟩:=zg7 hb;obtain⟨M,ev⟩:=List.getElem?_eq_some_iff.1 ev1;have E:(b:Int)<o.units.length:=by omega
   have O:¬(b:Int)<0:=by omega
   have hF:=W v (List.mem_of_getElem? ev1);have I:=hF.size;have N:=hF.segs;have P:v.segs.length<=w.length-at_:=by
    unfold begW at L;rw[Bool.and_eq_true,decide_eq_true_eq,List.length_drop] at L;exact L.1
   rw[hb] at K;simp only[ev1,Option.map_some,Option.getD_some] at K;have Y:(acc++v.graph).size<=32*(at_+v.segs.length):=by rw[ByteArray.size_append];omega
   simp+decide[int,ints,zaw,Orth.cells,optI,Grap.row,M,E,ev,ev1,O,I64];exact⟨by omega,⟨by omega,by omega⟩,f,at_+v.segs.length,acc++v.graph,⟨by omega,by omega,K,Y⟩,by omega,rfl,by omega⟩
def zcj(l:List ByteArray):D:=.sl (l.map λs=>[.str s])
def zhi(l:List Ent)(p:Prt):List Int:=((getE l p.entry).1.forms[p.alt.toNat]?).getD []
def zti(l:List Ent)(p:Prt):ByteArray:=((zec l p.entry)[p.sense.toNat]?.map λs=>s.gloss).getD .empty
def zdm(g:Lang):List Prt->List ByteArray->List ByteArray->List ByteArray×List ByteArray×Int
 | [],x,y=>(x,y,0)
 |p::ps,x,y=>if (zcu g.orth.units (zhi g.lex p)).2.2≠0 then ([],[],(zcu g.orth.units (zhi g.lex p)).2.2)
   else zdm g ps (x++[(zcu g.orth.units (zhi g.lex p)).1]) (y++[zti g.lex p])
def zdn(g:Lang)(ps:List Prt):List ByteArray×List ByteArray×Int:=
 if zef g ps≠0 then ([],[],zef g ps) else zdm g ps [] []
theorem ykz:∀ {l:List Ent} {ps:List Prt},zgm l ps=0->∀ p∈ps,zrm l p=0
 |l,[],_,p,H=>by cases H
 |l,q::ps,h,p,H=>by
  unfold zgm at h;split at h
  .rename_i hq
   rcases List.mem_cons.1 H with rfl | H
   .exact hq
   .exact ykz h p H
  .rename_i hq;exact absurd h hq
theorem yk0{g:Lang}{ps:List Prt}(h:zef g ps=0):ps.length<=4/\∀ p∈ps,zrm g.lex p=0:=by
 unfold zef at h
 split at h
 .cases h
 .split at h
  .cases h
  .split at h
   .rename_i H;exact absurd h H
   .rename_i h2 H
    exact⟨by omega,ykz (by simpa using H)⟩
theorem yod{l:List Ent}{p:Prt}(h:zrm l p=0):(getE l p.entry).2=true/\0<=p.alt/\p.alt<(getE l p.entry).1.forms.length/\0<=p.sense/\p.sense<(zec l p.entry).length:=by
 unfold zrm at h
 split at h
 .cases h
 .rename_i H
  split at h
  .cases h
  .rename_i h2
   split at h
   .cases h
   .rename_i h3
    unfold zhg at h2;split at h2
    .rename_i h4
     exact⟨by simpa using H,h4.2.1,h4.2.2,by omega,by omega⟩
    .simp at h2
theorem zqo{g:Lang}{ps:List Prt}{k:Nat}{x y:List ByteArray}(h:k<ps.length):zdm g (ps.drop k) x y=if (zcu g.orth.units (zhi g.lex ps[k])).2.2≠0 then ([],[],(zcu g.orth.units (zhi g.lex ps[k])).2.2)
   else zdm g (ps.drop (k+1)) (x++[(zcu g.orth.units (zhi g.lex ps[k])).1]) (y++[zti g.lex ps[k]]):=by
 rw[List.drop_eq_getElem_cons h];rfl
def strRow(l:List ByteArray):List (List D):=l.map λs=>[.str s]
theorem yjm(g:Lang)(B:LightF g)(C:LangC g)(ps:List Prt)(I:ps.length<2^20):
  zan Tryz.prog 14 [g.d,anaD ps] (.tup [zcj (zdn g ps).1,zcj (zdn g ps).2.1,int (zdn g ps).2.2]):=by
 have N:=B.yjb C
 have P:=N.toLangOk
 have O:=zv5 g P ps I
 refine zab mixed Tryz.func14 rfl c_14 ?_
 unfold zdn
 simp+decide[Tryz.f14,int,Lang.d,anaD,zaz]
 refine zai.pure (by rfl) O (by simp[Lang.d,anaD,zaz,int]) ?_
 by_cases S:zef g ps=0
 case neg=>simp+decide[int,S,zcj]
 obtain⟨h4,Q⟩:=yk0 S
 obtain⟨E,hE⟩:∃ E,zdm g ps [] []=E:=⟨_,rfl⟩
 simp+decide[int,S,hE,zat]
 refine zax mixed (λx:Nat×List ByteArray×List ByteArray=>{n:=74,next:=6,slots:=[(2,.bp 0 0),(3,.bp 1 0),(8,.ar 4),(9,.ar 5),(24,.d (zat ps)),(25,.d (int ps.length)),(26,.d (int x.1))],own:=[(0,.box 36 (zaz g.d)),(1,.box 39 [.d (zat ps)]),(4,.arr 9 1 (strRow x.2.1)),(5,.arr 9 1 (strRow x.2.2))],moved:=[4,5]})
  (λx=>x.1<=ps.length/\x.2.1.length=x.1/\x.2.2.length=x.1/\zdm g (ps.drop x.1) x.2.1 x.2.2=E) (λx=>ps.length-x.1) (0,[],[]) ⟨Nat.zero_le _,rfl,rfl,by rw[List.drop_zero];exact hE⟩ ?_ ?_
 .simp+decide[int,zat,zaz,Lang.d,strRow]
 rintro⟨k,x,y⟩ ⟨hk,hx,hy,H⟩
 simp only at hk hx hy H
 refine zas mixed ?_
 by_cases F:k<ps.length
 case neg=>
  have:k=ps.length:=by omega
  rw[this,List.drop_length] at H;subst H;have G:¬(k:Int)<ps.length:=by omega
  simp+decide[int,F,G,zdm,zcj,strRow]
 have G:(k:Int)<ps.length:=by omega
 rw[zqo F] at H
 obtain⟨p,ep⟩:∃ p,ps[k]=p:=⟨_,rfl⟩
 have e1:ps[k]?=some p:=by rw[List.getElem?_eq_getElem F,ep]
 have L:=Q ps[k] (List.getElem_mem F)
 rw[ep] at H L
 obtain⟨q1,q2,q3,q4,q5⟩:=yod L
 have hG:=znl g.lex p.entry P.lex.len
 have hA:=zhx P.lex p.entry
 have hF:=z0o (getE g.lex p.entry).1 (by omega)
 have T:(zhi g.lex p).length<2^20:=by
  unfold zhi;have hj:p.alt.toNat<(getE g.lex p.entry).1.forms.length:=by omega
  rw[List.getElem?_eq_getElem hj];exact P.lex.form _ (znm q1) _ (List.getElem_mem hj)
 have hS:=yjl g.orth C.orth B.units1 (zhi g.lex p) (by omega)
 have M:=z0n g.lex p.entry P.lex.len P.lex.senses
 have J:=zth B.units1 (zhi g.lex p)
 have K:(getE g.lex p.entry).1.forms[p.alt.toNat]?=some (zhi g.lex p):=by
  unfold zhi;have hj:p.alt.toNat<(getE g.lex p.entry).1.forms.length:=by omega
  rw[List.getElem?_eq_getElem hj];rfl
 obtain⟨sn,hsn,V⟩:∃ sn,(zec g.lex p.entry)[p.sense.toNat]?=some sn/\zti g.lex p=sn.gloss:=by
  have hj:p.sense.toNat<(zec g.lex p.entry).length:=by omega
  exact⟨_,List.getElem?_eq_getElem hj,by unfold zti;rw[List.getElem?_eq_getElem hj];rfl⟩
 rw[V] at H
 generalize zhi g.lex p=W at K hS H J T
 generalize zcu g.orth.units W=z at hS H J
 generalize zec g.lex p.entry=ss at M hsn q5
 generalize getE g.lex p.entry=r at hG hF K q3 q1 hA
 obtain⟨e,ok⟩:=r
 obtain⟨s,pos,err⟩:=z
 simp only at hG hF K q3 q1 hS H J hA
 subst q1
 have hj:p.alt.toNat<e.forms.length:=by omega
 have X:e.forms[p.alt.toNat]=W:=Option.some.inj (by rw[<-List.getElem?_eq_getElem hj];exact K)
 have hk:p.sense.toNat<ss.length:=by omega
 have Y:ss[p.sense.toNat]=sn:=Option.some.inj (by rw[<-List.getElem?_eq_getElem hk];exact hsn)
 simp+decide[int,zat,zaz,Lang.d,Prt.row,F,G,ep,e1,I64]
 refine zai.pure (by rfl) hG (by simp[lexD,int]) ?_
 simp+decide[int,zat,zaz,Lang.d,Prt.row,Ent.row,I64]
 refine zaa (by rfl) (by rfl) hF (by simp[D.scalar]) ?_
 simp+decide[int,zat,zaz,Lang.d,Prt.row,Ent.row,I64,zcb,q2,q3,hj,X]
 refine zaa (by rfl) (by rfl) hS (by simp[D.scalar]) ?_
 by_cases he:err=0
 case neg=>
  rw[if_pos he] at H;subst H;simp+decide[int,zat,zaz,Lang.d,Prt.row,Ent.row,I64,he,zcj]
 subst he
 rw[if_neg (by decide)] at H
 simp+decide[int,zat,zaz,Lang.d,Prt.row,Ent.row,I64,maxLen]
 have Z:(strRow x).length=k:=by simp[strRow,hx]
 have A:(strRow y).length=k:=by simp[strRow,hy]
 refine⟨by omega,by omega,?_⟩
 refine zjj mixed 12 (by rfl) (by rfl) (by rfl) (by rfl) (by simp) ?_
 simp+decide[int,zat,zaz,Lang.d,Prt.row,Ent.row,I64,maxLen]
 refine zaa (by rfl) (by rfl) M (by simp[D.scalar]) ?_
 simp+decide[int,zat,zaz,Lang.d,Prt.row,Ent.row,I64,maxLen,zbv,Sens.row,q4,q5,hk,Y]
 exact⟨by omega,by omega,⟨by omega,by omega⟩,k+1,x++[s],y++[sn.gloss],⟨F,by simp[hx],by simp[hy],H⟩,by omega,by omega,by simp[strRow],by simp[strRow]⟩
theorem z5d(g:Lang)(B:LightF g)(C:LangC g)(ps:List Prt)(I:ps.length<2^20):
  zan Tryz.prog 15 [g.d,anaD ps] (.tup [zcj (zdn g ps).1,zcj (zdn g ps).2.1,int (zdn g ps).2.2]):=by
 have N:=B.yjb C
 have P:=N.toLangOk
 have O:=znr g N.toLangL ps I
 refine zab mixed Tryz.func15 rfl c_15 ?_
 unfold zdn
 simp+decide[Tryz.f15,int,Lang.d,anaD,zaz]
 refine zai.pure (by rfl) O (by simp[Lang.d,anaD,zaz,int]) ?_
 by_cases S:zef g ps=0
 case neg=>simp+decide[int,S,zcj]
 obtain⟨h4,Q⟩:=yk0 S
 obtain⟨E,hE⟩:∃ E,zdm g ps [] []=E:=⟨_,rfl⟩
 simp+decide[int,S,hE,zat]
 refine zax mixed (λx:Nat×List ByteArray×List ByteArray=>{n:=78,next:=6,slots:=[(2,.bp 0 0),(3,.bp 1 0),(8,.ar 4),(9,.ar 5),(10,.d (int x.1))],own:=[(0,.box 36 (zaz g.d)),(1,.box 39 [.d (zat ps)]),(4,.arr 9 1 (strRow x.2.1)),(5,.arr 9 1 (strRow x.2.2))],moved:=[4,5]})
  (λx=>x.1<=ps.length/\x.2.1.length=x.1/\x.2.2.length=x.1/\zdm g (ps.drop x.1) x.2.1 x.2.2=E) (λx=>ps.length-x.1) (0,[],[]) ⟨Nat.zero_le _,rfl,rfl,by rw[List.drop_zero];exact hE⟩ ?_ ?_
 .simp+decide[int,zat,zaz,Lang.d,strRow]
 rintro⟨k,x,y⟩ ⟨hk,hx,hy,H⟩
 simp only at hk hx hy H
 refine zas mixed ?_
 by_cases F:k<ps.length
 case neg=>
  have:k=ps.length:=by omega
  rw[this,List.drop_length] at H;subst H;have G:¬(k:Int)<ps.length:=by omega
  simp+decide[int,F,G,zdm,zcj,strRow,zat]
 have G:(k:Int)<ps.length:=by omega
 rw[zqo F] at H
 obtain⟨p,ep⟩:∃ p,ps[k]=p:=⟨_,rfl⟩
 have e1:ps[k]?=some p:=by rw[List.getElem?_eq_getElem F,ep]
 have L:=Q ps[k] (List.getElem_mem F)
 rw[ep] at H L
 obtain⟨q1,q2,q3,q4,q5⟩:=yod L
 have hG:=znj g.lex p.entry (by have:=P.lex.len;omega)
 have hA:=zhx P.lex p.entry
 have hF:=zqj (getE g.lex p.entry).1 (by omega)
 have T:(zhi g.lex p).length<2^20:=by
  unfold zhi;have hj:p.alt.toNat<(getE g.lex p.entry).1.forms.length:=by omega
  rw[List.getElem?_eq_getElem hj];exact P.lex.form _ (znm q1) _ (List.getElem_mem hj)
 have hS:=z5c g.orth C.orth B.units1 (zhi g.lex p) (by omega)
 have M:=zs8 g.lex p.entry P.lex.len
 have J:=zth B.units1 (zhi g.lex p)
 have K:(getE g.lex p.entry).1.forms[p.alt.toNat]?=some (zhi g.lex p):=by
  unfold zhi;have hj:p.alt.toNat<(getE g.lex p.entry).1.forms.length:=by omega
  rw[List.getElem?_eq_getElem hj];rfl
 obtain⟨sn,hsn,V⟩:∃ sn,(zec g.lex p.entry)[p.sense.toNat]?=some sn/\zti g.lex p=sn.gloss:=by
  have hj:p.sense.toNat<(zec g.lex p.entry).length:=by omega
  exact⟨_,List.getElem?_eq_getElem hj,by unfold zti;rw[List.getElem?_eq_getElem hj];rfl⟩
 rw[V] at H
 generalize zhi g.lex p=W at K hS H J T
 generalize zcu g.orth.units W=z at hS H J
 generalize zec g.lex p.entry=ss at M hsn q5
 generalize getE g.lex p.entry=r at hG hF K q3 q1 hA
 obtain⟨e,ok⟩:=r
 obtain⟨s,pos,err⟩:=z
 simp only at hG hF K q3 q1 hS H J hA
 subst q1
 have hj:p.alt.toNat<e.forms.length:=by omega
 have X:e.forms[p.alt.toNat]=W:=Option.some.inj (by rw[<-List.getElem?_eq_getElem hj];exact K)
 have hk:p.sense.toNat<ss.length:=by omega
 have Y:ss[p.sense.toNat]=sn:=Option.some.inj (by rw[<-List.getElem?_eq_getElem hk];exact hsn)
 simp+decide[int,zat,zaz,Lang.d,Prt.row,F,G,ep,e1,I64]
 refine zai.pure (by rfl) hG (by simp[lexD,int]) ?_
 simp+decide[int,zat,zaz,Lang.d,Prt.row,Ent.row,I64]
 refine zaa (by rfl) (by rfl) hF (by simp[D.scalar]) ?_
 simp+decide[int,zat,zaz,Lang.d,Prt.row,Ent.row,I64,zcb,q2,q3,hj,X]
 refine zaa (by rfl) (by rfl) hS (by simp[D.scalar]) ?_
 by_cases he:err=0
 case neg=>
  rw[if_pos he] at H;subst H;simp+decide[int,zat,zaz,Lang.d,Prt.row,Ent.row,I64,he,zcj]
 subst he
 rw[if_neg (by decide)] at H
 simp+decide[int,zat,zaz,Lang.d,Prt.row,Ent.row,I64,maxLen]
 have Z:(strRow x).length=k:=by simp[strRow,hx]
 have A:(strRow y).length=k:=by simp[strRow,hy]
 refine⟨by omega,by omega,?_⟩
 refine zjj mixed 12 (by rfl) (by rfl) (by rfl) (by rfl) (by simp) ?_
 simp+decide[int,zat,zaz,Lang.d,Prt.row,Ent.row,I64,maxLen]
 refine zaa (by rfl) (by rfl) M (by simp[D.scalar]) ?_
 simp+decide[int,zat,zaz,Lang.d,Prt.row,Ent.row,I64,maxLen,zbv,Sens.row,q4,q5,hk,Y]
 exact⟨by omega,by omega,⟨by omega,by omega⟩,k+1,x++[s],y++[sn.gloss],⟨F,by simp[hx],by simp[hy],H⟩,by omega,by omega,by simp[strRow],by simp[strRow]⟩
theorem ztj{g:Lang}:∀ {ps:List Prt} {x y:List ByteArray},(zdm g ps x y).1.length<=x.length+ps.length/\(zdm g ps x y).2.1.length<=y.length+ps.length
 | [],x,y=>by simp[zdm]
 |p::ps,x,y=>by
  unfold zdm;split
  .simp
  .have:=ztj (g:=g) (ps:=ps) (x:=x++[(zcu g.orth.units (zhi g.lex p)).1]) (y:=y++[zti g.lex p])
   simp only[List.length_append,List.length_cons,List.length_nil] at this ⊢;omega
theorem zwi(g:Lang)(ps:List Prt):(zdn g ps).1.length<=ps.length/\(zdn g ps).2.1.length<=ps.length:=by
 unfold zdn
 split
 .simp
 .have:=ztj (g:=g) (ps:=ps) (x:=[]) (y:=[])
  simpa using this
def licP(g:Lang)(s:ByteArray)(ps:List Prt):Bool:=decide ((zln g.orth.units s).2.2=0)&&licE g (zln g.orth.units s).1 ps
theorem zyg(g:Lang)(G:LightF g)(F:LangC g)(s:ByteArray)(hs:s.size<=1024)(ps:List Prt)(E:ps.length<2^20):zan Tryz.prog 64 [g.d,.str s,anaD ps] (.bool (licP g s ps)):=by
 have K:=G.yjb F
 have J:=yfh g.orth F.orth G.graphs s hs
 have H:=z06 g.orth.units s
 have h2:=z4m g K.toLangOk (zln g.orth.units s).1 (by omega) ps E
 unfold licP licE
 generalize zln g.orth.units s=z at *
 obtain⟨w,pos,e⟩:=z
 simp only at J h2 H ⊢
 refine zab mixed Tryz.func64 rfl c_64 ?_
 simp+decide[Tryz.f64,int,Lang.d,anaD,zaz]
 refine zai.pure (by rfl) J (by simp[D.scalar]) ?_
 by_cases L:e=0
 .simp+decide[int,ints,L]
  refine zai.pure (by rfl) h2 (by simp[D.scalar]) ?_
  simp+decide[int,ints]
 .simp+decide[int,ints,L]
theorem zrn(g:Lang)(G:LightF g)(F:LangC g)(s:ByteArray)(hs:s.size<=1024)(ps:List Prt)(E:ps.length<2^20):zan Tryz.prog 68 [g.d,.str s,anaD ps] (.bool (licP g s ps)):=by
 have K:=G.yjb F
 have J:=yfe g.orth F.orth G.graphs s hs
 have H:=z06 g.orth.units s
 have h2:=zvc g K (zln g.orth.units s).1 (by omega) ps E
 unfold licP
 generalize zln g.orth.units s=z at *
 obtain⟨w,pos,e⟩:=z
 simp only at J h2 H ⊢
 refine zab mixed Tryz.func68 rfl c_68 ?_
 simp+decide[Tryz.f68,int,Lang.d,anaD,zaz]
 refine zai.pure (by rfl) J (by simp[D.scalar]) ?_
 by_cases L:e=0
 .simp+decide[int,ints,L]
  refine zai.pure (by rfl) h2 (by simp[D.scalar]) ?_
  simp+decide[int,ints]
 .simp+decide[int,ints,L]
end Go.V
namespace Go.V.Doc
open Go Go.Proofs
def newG(d:Dc)(w nx:Int)(F G:List ByteArray)(i:Nat):List Nt:=
 [⟨nx+2*i,zcr d.tiers 3,w,0,0,i,(F[i]?).getD .empty⟩,⟨nx+2*i+1,zcr d.tiers 4,nx+2*i,0,0,0,(G[i]?).getD .empty⟩]
def newK(d:Dc)(w nx:Int)(F G:List ByteArray)(k:Nat):List Nt:=(List.range k).flatMap (newG d w nx F G)
theorem znw(d:Dc)(w nx:Int)(F G:List ByteArray)(k:Nat):newK d w nx F G (k+1)=newK d w nx F G k++newG d w nx F G k:=by
 unfold newK;rw[List.range_succ,List.flatMap_append];simp
theorem znx(d:Dc)(w nx:Int)(F G:List ByteArray):∀ k,(newK d w nx F G k).length=2*k
 |0=>rfl
 |k+1=>by rw[znw,List.length_append,znx d w nx F G k];simp[newG];omega
def zfz(l:List Nt)(nx:Int)(k:Nat):Bool:=(List.range k).any λi=>(getN l (nx+i)).2
theorem zk5(l:List Nt)(nx:Int)(k:Nat):zfz l nx (k+1)=(zfz l nx k || (getN l (nx+k)).2):=by
 unfold zfz;rw[List.range_succ,List.any_append];simp
def z5e(F:List ByteArray):Bool:=F.any λs=>decide (200<s.size)
def ymg(d:Dc)(w nx:Int)(F G:List ByteArray):Dc:={d with notes:=zgk (zbf d w++newK d w nx F G F.length)}
def zgp(d:Dc)(g:Lang)(w:Int)(ps:List Prt)(nx:Int):Dc×Int:=
 if (zee d w).2≠0 then (zo8,(zee d w).2)
 else if licP g (getN d.notes w).1.text ps=false then (zo8,23)
 else if (zdn g ps).2.2≠0 then (zo8,(zdn g ps).2.2)
 else if z5e (zdn g ps).1=true then (zo8,5)
 else if nx<1\/1099511627768<nx then (zo8,2)
 else if zfz (zbf d w) nx (2*(zdn g ps).1.length)=true then (zo8,8)
 else if 300<(zbf d w).length+2*(zdn g ps).1.length then (zo8,11)
 else (ymg d w nx (zdn g ps).1 (zdn g ps).2.1,0)
theorem zj4{d:Dc}(h:Rgt d){w:Int}(F:zc1 d w=true):getN (zbf d w) w=getN d.notes w:=by
 unfold zc1 at F
 rw[Bool.and_eq_true] at F
 obtain⟨E,K⟩:=zf3 F.1
 obtain⟨n,J⟩:∃ n,(getN d.notes w).1=n:=⟨_,rfl⟩
 rw[J] at E K
 have L:yed d w n=false:=by
  unfold yed;rw[decide_eq_false_iff_not];intro M;obtain⟨c,M,_,q⟩:=(z8i h E).1 M;have O:=zxv h E M;have:=zg3 h E (zrx h E M) (by rw[q,K])
  omega
 have H:=zjx h E
 rw[K] at H
 rw[H]
 unfold zbf
 unfold getN at H ⊢
 rw[List.find?_filter]
 have key:∀ l:List Nt,l.Pairwise (λa b=>a.id<b.id)->n∈l->List.find? (λa=>decide ((!yed d w a)=true/\decide (a.id=w)=true)) l=some n:=by
  intro l Q G;rw[List.find?_eq_some_iff_append];obtain⟨l1,l2,rfl⟩:=List.append_of_mem G;refine⟨by simp[L,K],l1,l2,rfl,λa T=>?_⟩
  have:=(List.pairwise_append.1 Q).2.2 a T n List.mem_cons_self
  have:¬a.id=w:=by omega
  simp[this]
 rw[key _ h.inc E]
theorem note_text{d:Dc}(h:Rgt d)(id:Int):(getN d.notes id).1.text.size<=1024:=by
 cases H:(getN d.notes id).2 with
 |true=>
  have G:=(zf3 H).1;have F:=(h.nok _ G).e;rw[zmc] at F;split at F
  .rename_i ht
   unfold textE at ht;split at ht
   .cases ht
   .omega
  .rename_i ht;exact absurd F ht
 |false=>
  unfold getN at H ⊢;split at H
  .cases H
  .exact Nat.zero_le _
theorem ybo{d:Dc}(h:Rgt d)(g:Lang)(w:Int)(H:ClearOk d w)(ps:List Prt)(nx:Int)(G:(zee d w).2≠0):zan Tryz.prog 26 [docD d,g.d,int w,anaD ps,int nx] (.tup [docD (zgp d g w ps nx).1,int (zgp d g w ps nx).2]):=by
 have F:=yl1 h w H
 unfold zgp
 rw[if_pos G]
 generalize zee d w=z at *
 obtain⟨x,e⟩:=z
 simp only at F G ⊢
 refine zab mixed Tryz.func26 rfl c_26 ?_
 simp+decide[Tryz.f26,docD,Dc.row,int,Lang.d,anaD,zaz]
 refine zai.pure (by rfl) F (by simp) ?_
 simp+decide[docD,Dc.row,int,G]
 exact⟨rfl,rfl,rfl⟩
def fOwn(d:Dc)(g:Lang)(ps:List Prt)(N:List Nt):List (Nat×Obj'):=
 [(0,.box 53 (zbd d)),(1,.box 36 (zaz g.d)),(2,.box 39 [.d (zat ps)]),(3,.box 53 zeroCells),(8,.arr 72 7 (N.map Nt.row)),
  (10,.box 53 [.d (int d.id),.d (.str d.name),.d (int d.len),.d (int d.day),.d (ints d.spk),.d (zad d.tiers),.ar 8])]
def zf0(w nx:Int)(F G:List ByteArray):List (Nat×Sym):=
 [(2,.d (int w)),(4,.d (int nx)),(5,.bp 0 0),(6,.bp 1 0),(8,.bp 2 0),(10,.bp 3 0),(12,.bp 10 0),(16,.d (zcj F)),(17,.d (zcj G))]
theorem zqp{g:Lang}:∀ {ps:List Prt} {x y:List ByteArray},y.length=x.length->(zdm g ps x y).2.1.length=(zdm g ps x y).1.length
 | [],x,y,h=>h
 |p::ps,x,y,h=>by
  unfold zdm;split
  .rfl
  .exact zqp (by simp[h])
theorem ztk(g:Lang)(ps:List Prt):(zdn g ps).2.1.length=(zdn g ps).1.length:=by
 unfold zdn
 split
 .rfl
 .exact zqp rfl
theorem zff(g:Lang){m:Nat}:Sym.los m (zaz g.d):=by simp[zaz,Lang.d,Sym.los,Sym.lo]
theorem ymh{d:Dc}(h:Rgt d)(g:Lang)(hL:LightF g)(hg:LangC g)(w:Int)(hc:ClearOk d w)(ps:List Prt)(hp:ps.length<2^20)(nx:Int)(hr:zep d=true)(hw:zc1 d w=true):
  zan Tryz.prog 26 [docD d,g.d,int w,anaD ps,int nx] (.tup [docD (zgp d g w ps nx).1,int (zgp d g w ps nx).2]):=by
 have S:=h.few
 have W:=zqf h
 have hC:=z0r h w hr hw hc
 have H0:(zee d w).2=0:=by unfold zee;rw[if_neg (by rw[hr];decide),if_neg (by rw[hw];decide)]
 have Hb:(zbf d w).length<=d.notes.length:=List.length_filter_le _ _
 have C:=z7j (zfr d w) w (by simp only[zfr];omega)
 have V:=zyg g hL hg (getN d.notes w).1.text (note_text h w) ps hp
 have H1:=yjm g hL hg ps hp
 have H2:=zwi g ps
 have H3:=ztk g ps
 have H4:=znc d (by omega)
 rw[show(zfr d w).notes=zbf d w from rfl,zj4 h hw] at C
 obtain⟨E,hE⟩:∃ E,zgp d g w ps nx=E:=⟨_,rfl⟩
 rw[hE]
 unfold zgp at hE
 rw[if_neg (by simp[H0])] at hE
 refine zbp mixed Tryz.func26 rfl c_26 [8] ?_
 simp+decide[Tryz.f26,docD,Dc.row,int,Lang.d,anaD,zaz]
 refine zai.mut [] [.d (docD d),.d (int w)] [] (by rfl) (by simp[docD,Dc.row,int]) (by simp) (by simp) hC ?_
 simp+decide[int]
 refine zai.pure (by rfl) C (by simp[getD',D.scalar,D.scalars,Nt.row,int]) ?_
 simp+decide[getD',Nt.row,int]
 refine zai.pure (by rfl) V (by simp[D.scalar]) ?_
 cases J:licP g (getN d.notes w).1.text ps with
 |false=>
  rw[if_pos J] at hE;subst hE;simp+decide[int];exact⟨rfl,rfl,rfl⟩
 |true=>
 rw[if_neg (by rw[J];decide)] at hE
 simp+decide[int]
 refine zai.pure (by rfl) H1 (by simp[D.scalar]) ?_
 generalize zdn g ps=z at *
 obtain⟨F,G,e⟩:=z
 simp only at hE H2 H3
 by_cases he:e=0
 case neg=>
  rw[if_pos he] at hE;subst hE;simp+decide[int,he];exact⟨rfl,rfl,rfl⟩
 subst he
 rw[if_neg (by decide)] at hE
 simp+decide[int,zcj]
 refine zax mixed (λk:Nat=>{n:=145,next:=12,slots:=(60,.d (zcj F))::(61,.d (int F.length))::(62,.d (int k))::zf0 w nx F G,own:=fOwn d g ps (zbf d w),moved:=[7,8]})
  (λk=>k<=F.length/\z5e (F.take k)=false) (λk=>F.length-k) 0 ⟨Nat.zero_le _,rfl⟩ ?_ ?_
 .simp+decide[int,zf0,fOwn,zcj,zaz,Lang.d]
 rintro k ⟨hk,T⟩
 refine zas mixed ?_
 by_cases O:k<F.length
 case pos=>
  have H:(k:Int)<F.length:=by omega
  obtain⟨s,es⟩:∃ s,F[k]=s:=⟨_,rfl⟩;have e1:F[k]?=some s:=by rw[List.getElem?_eq_getElem O,es]
  by_cases hs:200<s.size
  .have X:(200:Int)<s.size:=by omega
   have H5:z5e F=true:=List.any_eq_true.2 ⟨s,by rw[<-es];exact List.getElem_mem O,by simpa using hs⟩
   rw[if_pos H5] at hE;subst hE;simp+decide[int,zf0,fOwn,zcj,O,H,es,e1,hs,X,I64];exact⟨rfl,rfl,rfl⟩
  .have X:¬(200:Int)<s.size:=by omega
   simp+decide[int,zf0,fOwn,zcj,O,H,es,e1,hs,X,I64];refine⟨⟨by omega,by omega⟩,k+1,⟨O,?_⟩,by omega,by omega,zff g⟩
   unfold z5e at T ⊢;rw[List.take_succ_eq_append_getElem O,List.any_append,T,es];simp[hs]
 have H6:k=F.length:=by omega
 rw[H6,List.take_length] at T
 have H:¬(k:Int)<F.length:=by omega
 rw[if_neg (by rw[T];decide)] at hE
 by_cases h1:nx<1
 .rw[if_pos (.inl h1)] at hE
  subst hE;simp+decide[int,zf0,fOwn,zcj,H,h1,I64];exact⟨rfl,rfl,rfl⟩
 by_cases h2:1099511627768<nx
 .rw[if_pos (.inr h2)] at hE
  subst hE;simp+decide[int,zf0,fOwn,zcj,H,h1,h2,I64];exact⟨rfl,rfl,rfl⟩
 rw[if_neg (λe=>e.elim h1 h2)] at hE
 simp+decide[int,zf0,fOwn,zcj,H,h1,h2,I64]
 refine⟨⟨by omega,by omega⟩,?_⟩
 refine zax mixed (λk:Nat=>{n:=145,next:=12,slots:=(80,.d (int (2*F.length)))::(81,.d (int k))::zf0 w nx F G,own:=fOwn d g ps (zbf d w),moved:=[7,8]})
  (λk=>k<=2*F.length/\zfz (zbf d w) nx k=false) (λk=>2*F.length-k) 0 ⟨Nat.zero_le _,rfl⟩ ?_ ?_
 .simp+decide[int,zf0,fOwn,zcj]
  exact zff g
 rintro q ⟨hq,Y⟩
 refine zas mixed ?_
 by_cases I:q<2*F.length
 case pos=>
  have K:(q:Int)<2*F.length:=by omega
  have N:=z7j (zfr d w) (nx+q) (by simp only[zfr];omega)
  rw[show(zfr d w).notes=zbf d w from rfl] at N
  have Z:=zk5 (zbf d w) nx q;generalize getN (zbf d w) (nx+q)=r at *;obtain⟨n,ok⟩:=r;simp only[Y,Bool.false_or] at Z;simp+decide[int,zf0,fOwn,zcj,I,K,I64];refine⟨⟨by omega,by omega⟩,?_⟩
  refine zai.pure (by rfl) N (by simp[getD',D.scalar,D.scalars,Nt.row,int]) ?_
  cases ok with
  |true=>
   have H7:zfz (zbf d w) nx (2*F.length)=true:=by
    have:∀ m,zfz (zbf d w) nx (q+1+m)=true:=by
     intro m;induction m with
     |zero=>exact Z
     |succ m ih=>rw[<-Nat.add_assoc,zk5,ih];rfl
    have h:=this (2*F.length-(q+1));rwa [show q+1+(2*F.length-(q+1))=2*F.length by omega] at h
   rw[if_pos H7] at hE;subst hE;simp+decide[getD',Nt.row,int];exact⟨rfl,rfl,rfl⟩
  |false=>
   simp+decide[getD',Nt.row,int,I64];exact⟨⟨by omega,by omega⟩,q+1,⟨I,Z⟩,by omega,by omega,zff g⟩
 have H8:q=2*F.length:=by omega
 rw[H8] at Y
 have K:¬(q:Int)<2*F.length:=by omega
 rw[if_neg (by rw[Y];decide)] at hE
 by_cases h3:300<(zbf d w).length+2*F.length
 .have A:(300:Int)<(zbf d w).length+2*F.length:=by omega
  rw[if_pos h3] at hE;subst hE;simp+decide[int,zf0,fOwn,zcj,K,h3,A,I64];exact⟨⟨by omega,by omega⟩,⟨by omega,by omega⟩,rfl,rfl,rfl⟩
 have A:¬(300:Int)<(zbf d w).length+2*F.length:=by omega
 rw[if_neg h3] at hE
 simp+decide[int,zf0,fOwn,zcj,K,h3,A,I64]
 refine⟨⟨by omega,by omega⟩,⟨by omega,by omega⟩,?_⟩
 refine zai.pure (by rfl) H4 (by simp[docD,Dc.row]) ?_
 simp+decide[zim,int]
 refine zax mixed (λk:Nat=>{n:=145,next:=13,slots:=(23,.bp 12 0)::(107,.d (int F.length))::(108,.d (int k))::zf0 w nx F G,own:=(12,.box 112 [.d (int (zcr d.tiers 2)),.d (int (zcr d.tiers 3)),.d (int (zcr d.tiers 4))])::fOwn d g ps (zbf d w++newK d w nx F G k),moved:=[7,8]})
  (λk=>k<=F.length) (λk=>F.length-k) 0 (Nat.zero_le _) ?_ ?_
 .simp+decide[int,zf0,fOwn,zcj,newK]
  exact zff g
 intro i hi
 refine zas mixed ?_
 by_cases J:i<F.length
 case neg=>
  have:i=F.length:=by omega
  subst this;have L:¬(F.length:Int)<F.length:=by omega
  have H9:zbf d w++newK d w nx F G F.length≠[]:=by
   intro e0;have P:=zj4 h hw;have:zbf d w=[]:=(List.append_eq_nil_iff.1 e0).1
   rw[this] at P;unfold zc1 at hw;rw[<-P] at hw;simp[getN] at hw
  have hS:=yei (zbf d w++newK d w nx F G F.length) H9 (by rw[List.length_append,znx];omega)
  simp+decide[int,zf0,fOwn,zcj];simp only[<-List.map_append];refine zai.mut [8] [.ar 0,.fn 66 []] [(0,.arr 72 7 ((zbf d w++newK d w nx F G F.length).map Nt.row))] (by rfl) (by simp[int]) (by simp[Sym.los,Sym.lo]) (by simp) hS ?_
  subst hE;simp+decide[int,ymg];exact rfl
 have L:(i:Int)<F.length:=by omega
 obtain⟨s,es⟩:∃ s,F[i]=s:=⟨_,rfl⟩
 have e1:F[i]?=some s:=by rw[List.getElem?_eq_getElem J,es]
 have B:i<G.length:=by omega
 have Q:(i:Int)<G.length:=by omega
 obtain⟨u,eu⟩:∃ u,G[i]=u:=⟨_,rfl⟩
 have e2:G[i]?=some u:=by rw[List.getElem?_eq_getElem B,eu]
 have hsn:=znw d w nx F G i
 have Ha:=znx d w nx F G i
 unfold newG at hsn
 rw[e1,e2] at hsn
 generalize newK d w nx F G i=M at hsn Ha
 simp+decide[int,zf0,fOwn,zcj,J,L,B,Q,es,e1,eu,e2,I64]
 refine⟨⟨by omega,by omega⟩,⟨by omega,by omega⟩,?_⟩
 refine zjj mixed 23 (by rfl) (by rfl) (by rfl) (by rfl) (by simp) ?_
 simp+decide[int,zcj,J,L,B,Q,es,e1,eu,e2,I64,maxLen]
 exact⟨⟨by omega,by omega⟩,by omega,by omega,⟨by omega,by omega⟩,i+1,J,by omega,by omega,by simp[zaz,Lang.d,zby,za2],zff g,by rw[hsn];simp[Nt.row,int]⟩
theorem yof{d:Dc}(h:Rgt d)(g:Lang)(H:LightF g)(G:LangC g)(w:Int)(F:ClearOk d w)(ps:List Prt)(E:ps.length<2^20)(nx:Int):
  zan Tryz.prog 26 [docD d,g.d,int w,anaD ps,int nx] (.tup [docD (zgp d g w ps nx).1,int (zgp d g w ps nx).2]):=by
 by_cases K:(zee d w).2=0
 .unfold zee at K
  cases J:zep d with
  |false=>rw[if_pos J] at K;cases K
  |true=>
   rw[if_neg (by rw[J];decide)] at K
   cases L:zc1 d w with
   |false=>rw[if_pos L] at K;cases K
   |true=>exact ymh h g H G w F ps E nx J L
 .exact ybo h g w F ps nx K
theorem ymj(d:Dc)(n:Nt)(J:d.notes.length<2^40):
  zbl Tryz.prog 69 [.d (docD d),.d (.agg n.row)] [] 0 (.agg [.d (int d.id),.d (.str d.name),.d (int d.len),.d (int d.day),.d (ints d.spk),.d (zad d.tiers),.ar 4]) 5 [(4,.arr 72 7 ((putN d.notes n).map Nt.row))] [4]:=by
 refine za6 mixed Tryz.func69 rfl c_69 (by simp[Sym.los,Sym.lo]) ?_
 simp+decide[Tryz.f69,docD,Dc.row,Nt.row,int,zad]
 refine zls (id:=3) (T:=53) 72 7 (pre:=[.d (int d.id),.d (.str d.name),.d (int d.len),.d (int d.day),.d (ints d.spk),.d (zad d.tiers)]) (post:=[]) rfl ?_
 refine zax mixed (λk:Nat=>{n:=58,next:=5,slots:=[(2,.bp 0 0),(3,.bp 1 0),(4,.bp 2 0),(5,.bp 3 0),(6,.d (.bool (putK d.notes n k).2)),(7,.d (int k))],own:=[(0,.box 53 (zbd d)),(1,.box 72 (noteCells n)),(2,.box 53 zeroCells),(3,.box 53 [.d (int d.id),.d (.str d.name),.d (int d.len),.d (int d.day),.d (ints d.spk),.d (zad d.tiers),.ar 4]),(4,.arr 72 7 ((putK d.notes n k).1.map Nt.row))],moved:=[4]})
  (λk=>k<=d.notes.length) (λk=>d.notes.length-k) 0 (Nat.zero_le _) ?_ ?_
 .simp+decide[int,zad,putK]
 intro k M
 refine zas mixed ?_
 have E:(putK d.notes n k).1.length<=k+1:=by
  unfold putK;split
  .show(d.notes.take k).length<=k+1
   rw[List.length_take];have:=Nat.min_le_left k d.notes.length;omega
  .have:=(zh0 (d.notes.take k) n).length_eq
   show(putN (d.notes.take k) n).length<=k+1
   rw[this,List.length_cons,List.length_take];omega
 by_cases G:k<d.notes.length
 case neg=>
  have K:k=d.notes.length:=by omega
  have F:putN d.notes n=if (putK d.notes n k).2=true then (putK d.notes n k).1 else (putK d.notes n k).1++[n]:=by
   unfold putK;rw[K,List.take_length];split
   .rename_i h;simp[z8j h]
   .simp
  have H:¬(k:Int)<d.notes.length:=by omega
  rw[F];generalize putK d.notes n k=z at *;obtain⟨L,b⟩:=z;simp only at E
  cases b with
  |false=>
   simp+decide[int,zak,H,Nt.row,maxLen];exact⟨by omega,by omega,rfl⟩
  |true=>
   simp+decide[int,zak,H];exact rfl
 have H:(k:Int)<d.notes.length:=by omega
 obtain⟨m,em⟩:∃ m,d.notes[k]=m:=⟨_,rfl⟩
 have e1:d.notes[k]?=some m:=by rw[List.getElem?_eq_getElem G,em]
 have hsn:=yek (n:=n) e1
 generalize putK d.notes n k=z at *
 obtain⟨L,b⟩:=z
 simp only at hsn E
 cases b with
 |true=>
  rw[if_neg (by simp)] at hsn
  simp+decide[int,zak,Nt.row,G,H,em,e1,I64];refine zjj mixed 8 (by rfl) (by rfl) (by rfl) (by rfl) (by simp) ?_
  simp+decide[int,zak,Nt.row,G,H,em,e1,I64,maxLen];exact⟨by omega,by omega,⟨by omega,by omega⟩,k+1,G,by omega,⟨by rw[hsn],by omega⟩,by rw[hsn];simp[Nt.row,int]⟩
 |false=>
  by_cases O:n.id<m.id
  .rw[if_pos ⟨rfl,O⟩] at hsn
   simp+decide[int,zak,Nt.row,G,H,em,e1,I64,O,maxLen];refine⟨by omega,by omega,?_⟩
   refine zjj mixed 8 (by rfl) (by rfl) (by rfl) (by rfl) (by simp) ?_
   simp+decide[int,zak,Nt.row,G,H,em,e1,I64,maxLen];exact⟨by omega,by omega,⟨by omega,by omega⟩,k+1,G,by omega,⟨by rw[hsn],by omega⟩,by rw[hsn];simp[Nt.row,int]⟩
  .rw[if_neg (λe=>O e.2)] at hsn
   simp+decide[int,zak,Nt.row,G,H,em,e1,I64,O,maxLen];refine zjj mixed 8 (by rfl) (by rfl) (by rfl) (by rfl) (by simp) ?_
   simp+decide[int,zak,Nt.row,G,H,em,e1,I64,maxLen];exact⟨by omega,by omega,⟨by omega,by omega⟩,k+1,G,by omega,⟨by rw[hsn],by omega⟩,by rw[hsn];simp[Nt.row,int]⟩
theorem z8u(d:Dc)(n:Nt)(H:d.notes.length<2^40):zan Tryz.prog 69 [docD d,.agg n.row] (docD {d with notes:=putN d.notes n}):=
 znp (ds:=[docD d,.agg n.row]) (ymj d n H) (by simp[thaw,zfa,zj6,docD,Dc.row,zak])
theorem zyh{d:Dc}(h:Rgt d)(g:Lang)(w:Int)(ps:List Prt)(nx:Int)(H:(zee d w).2≠0):zan Tryz.prog 27 [docD d,g.d,int w,anaD ps,int nx] (.tup [docD (zgp d g w ps nx).1,int (zgp d g w ps nx).2]):=by
 have G:=zv4 h w
 unfold zgp
 rw[if_pos H]
 generalize zee d w=z at *
 obtain⟨x,e⟩:=z
 simp only at G H ⊢
 refine zab mixed Tryz.func27 rfl c_27 ?_
 simp+decide[Tryz.f27,docD,Dc.row,int,Lang.d,anaD,zaz]
 refine zai.pure (by rfl) G (by simp) ?_
 simp+decide[docD,Dc.row,int,H]
 exact⟨rfl,rfl,rfl⟩
def rOwn(d:Dc)(g:Lang)(ps:List Prt)(x:Dc):List (Nat×Obj'):=
 [(0,.box 53 (zbd d)),(1,.box 36 (zaz g.d)),(2,.box 39 [.d (zat ps)]),(3,.box 53 zeroCells),(4,.box 53 (zbd x))]
def zf1(w nx:Int)(F G:List ByteArray):List (Nat×Sym):=
 [(2,.d (int w)),(4,.d (int nx)),(5,.bp 0 0),(6,.bp 1 0),(8,.bp 2 0),(10,.bp 3 0),(12,.bp 4 0),(14,.d (zcj F)),(15,.d (zcj G))]
def zlw(d:Dc)(w nx:Int)(F G:List ByteArray)(k:Nat):List Nt:=(newK d w nx F G k).foldl putN (zbf d w)
theorem z5f(d:Dc)(w nx:Int)(F G:List ByteArray)(k:Nat):zlw d w nx F G (k+1)=putN (putN (zlw d w nx F G k) ⟨nx+2*k,zcr d.tiers 3,w,0,0,k,(F[k]?).getD .empty⟩) ⟨nx+2*k+1,zcr d.tiers 4,nx+2*k,0,0,0,(G[k]?).getD .empty⟩:=by
 unfold zlw;rw[znw,List.foldl_append];rfl
theorem ztl:∀ (m l:List Nt),(m.foldl putN l).length=l.length+m.length
 | [],l=>rfl
 |n::m,l=>by rw[List.foldl_cons,ztl m,(zh0 l n).length_eq];simp only[List.length_cons];omega
theorem ybp(d:Dc)(w nx:Int)(F G:List ByteArray)(k:Nat):(zlw d w nx F G k).length=(zbf d w).length+2*k:=by
 unfold zlw;rw[ztl,znx]
theorem ybq{d:Dc}(h:Rgt d)(g:Lang)(hL:LightF g)(hg:LangC g)(w:Int)(ps:List Prt)(hp:ps.length<2^20)(nx:Int)(hr:zep d=true)(hw:zc1 d w=true)
  (heq:∀ F G:List ByteArray,zfz (zbf d w) nx (2*F.length)=false->zlw d w nx F G F.length=zgk (zbf d w++newK d w nx F G F.length)) :
  zan Tryz.prog 27 [docD d,g.d,int w,anaD ps,int nx] (.tup [docD (zgp d g w ps nx).1,int (zgp d g w ps nx).2]):=by
 have W:=h.few
 have H0:=zqf h
 have H1:zee d w=(zfr d w,0):=by unfold zee;rw[if_neg (by rw[hr];decide),if_neg (by rw[hw];decide)]
 have hC:=zv4 h w
 have Hd:(zbf d w).length<=d.notes.length:=List.length_filter_le _ _
 have H2:=z0a d w (by omega)
 have A:=zrn g hL hg (getN d.notes w).1.text (note_text h w) ps hp
 have H3:=z5d g hL hg ps hp
 have H4:=zwi g ps
 have H5:=ztk g ps
 have H6:=zdj d 3 (by omega)
 have H7:=zdj d 4 (by omega)
 obtain⟨E,hE⟩:∃ E,zgp d g w ps nx=E:=⟨_,rfl⟩
 rw[hE]
 unfold zgp at hE
 rw[H1] at hE hC
 simp only at hE hC
 rw[if_neg (by simp)] at hE
 refine zab mixed Tryz.func27 rfl c_27 ?_
 simp+decide[Tryz.f27,docD,Dc.row,int,Lang.d,anaD,zaz]
 refine zai.pure (by rfl) hC (by simp[docD,Dc.row]) ?_
 simp+decide[int,docD,Dc.row]
 refine zaa (by rfl) (by rfl) H2 (by simp[D.scalar]) ?_
 simp+decide[int]
 refine zaa (by rfl) (by rfl) A (by simp[D.scalar]) ?_
 cases L:licP g (getN d.notes w).1.text ps with
 |false=>
  rw[if_pos L] at hE;subst hE;simp+decide[int];exact⟨rfl,rfl,rfl⟩
 |true=>
 rw[if_neg (by rw[L];decide)] at hE
 simp+decide[int]
 refine zai.pure (by rfl) H3 (by simp[D.scalar]) ?_
 generalize zdn g ps=z at *
 obtain⟨F,G,e⟩:=z
 simp only at hE H4 H5
 by_cases he:e=0
 case neg=>
  rw[if_pos he] at hE;subst hE;simp+decide[int,he];exact⟨rfl,rfl,rfl⟩
 subst he
 rw[if_neg (by decide)] at hE
 simp+decide[int,zcj]
 refine zax mixed (λk:Nat=>{n:=136,next:=5,slots:=(16,.d (int k))::zf1 w nx F G,own:=rOwn d g ps (zfr d w)})
  (λk=>k<=F.length/\z5e (F.take k)=false) (λk=>F.length-k) 0 ⟨Nat.zero_le _,rfl⟩ ?_ ?_
 .simp+decide[int,zf1,rOwn,zcj,zaz,Lang.d]
 rintro k ⟨hk,X⟩
 refine zas mixed ?_
 by_cases Q:k<F.length
 case pos=>
  have H:(k:Int)<F.length:=by omega
  obtain⟨s,es⟩:∃ s,F[k]=s:=⟨_,rfl⟩;have e1:F[k]?=some s:=by rw[List.getElem?_eq_getElem Q,es]
  by_cases hs:200<s.size
  .have B:(200:Int)<s.size:=by omega
   have H8:z5e F=true:=List.any_eq_true.2 ⟨s,by rw[<-es];exact List.getElem_mem Q,by simpa using hs⟩
   rw[if_pos H8] at hE;subst hE;simp+decide[int,zf1,rOwn,zcj,Q,H,es,e1,hs,B,I64];exact⟨rfl,rfl,rfl⟩
  .have B:¬(200:Int)<s.size:=by omega
   simp+decide[int,zf1,rOwn,zcj,Q,H,es,e1,hs,B,I64];refine⟨⟨by omega,by omega⟩,k+1,⟨Q,?_⟩,by omega,by omega,zff g⟩
   unfold z5e at X ⊢;rw[List.take_succ_eq_append_getElem Q,List.any_append,X,es];simp[hs]
 have H9:k=F.length:=by omega
 rw[H9,List.take_length] at X
 have H:¬(k:Int)<F.length:=by omega
 rw[if_neg (by rw[X];decide)] at hE
 by_cases h1:nx<1
 .rw[if_pos (.inl h1)] at hE
  subst hE;simp+decide[int,zf1,rOwn,zcj,H,h1,I64];exact⟨rfl,rfl,rfl⟩
 by_cases h2:1099511627768<nx
 .rw[if_pos (.inr h2)] at hE
  subst hE;simp+decide[int,zf1,rOwn,zcj,H,h1,h2,I64];exact⟨rfl,rfl,rfl⟩
 rw[if_neg (λe=>e.elim h1 h2)] at hE
 simp+decide[int,zf1,rOwn,zcj,H,h1,h2,I64]
 refine zax mixed (λk:Nat=>{n:=136,next:=5,slots:=(17,.d (int k))::zf1 w nx F G,own:=rOwn d g ps (zfr d w)})
  (λk=>k<=2*F.length/\zfz (zbf d w) nx k=false) (λk=>2*F.length-k) 0 ⟨Nat.zero_le _,rfl⟩ ?_ ?_
 .simp+decide[int,zf1,rOwn,zcj]
  exact zff g
 rintro q ⟨hq,Y⟩
 refine zas mixed ?_
 by_cases P:q<2*F.length
 case pos=>
  have O:(q:Int)<2*F.length:=by omega
  have S:=zc0 (zfr d w) (nx+q) (by simp only[zfr];omega)
  rw[show(zfr d w).notes=zbf d w from rfl] at S
  have C:=zk5 (zbf d w) nx q;generalize getN (zbf d w) (nx+q)=r at *;obtain⟨n,ok⟩:=r;simp only[Y,Bool.false_or] at C;simp+decide[int,zf1,rOwn,zcj,P,O,I64];refine⟨⟨by omega,by omega⟩,⟨by omega,by omega⟩,?_⟩
  refine zai.pure (by rfl) S (by simp[getD',D.scalar,D.scalars,Nt.row,int]) ?_
  cases ok with
  |true=>
   have Ha:zfz (zbf d w) nx (2*F.length)=true:=by
    have:∀ m,zfz (zbf d w) nx (q+1+m)=true:=by
     intro m;induction m with
     |zero=>exact C
     |succ m ih=>rw[<-Nat.add_assoc,zk5,ih];rfl
    have h:=this (2*F.length-(q+1));rwa [show q+1+(2*F.length-(q+1))=2*F.length by omega] at h
   rw[if_pos Ha] at hE;subst hE;simp+decide[getD',Nt.row,int];exact⟨rfl,rfl,rfl⟩
  |false=>
   simp+decide[getD',Nt.row,int,I64];exact⟨⟨by omega,by omega⟩,q+1,⟨P,C⟩,by omega,by omega,zff g⟩
 have Hb:q=2*F.length:=by omega
 rw[Hb] at Y
 have O:¬(q:Int)<2*F.length:=by omega
 rw[if_neg (by rw[Y];decide)] at hE
 by_cases h3:300<(zbf d w).length+2*F.length
 .have I:(300:Int)<(zbf d w).length+2*F.length:=by omega
  rw[if_pos h3] at hE;subst hE;simp+decide[int,zf1,rOwn,zcj,O,h3,I,I64,zfr,zak];exact⟨⟨by omega,by omega⟩,⟨by omega,by omega⟩,rfl,rfl⟩
 have I:¬(300:Int)<(zbf d w).length+2*F.length:=by omega
 rw[if_neg h3] at hE
 have V:=heq F G Y
 simp+decide[int,zf1,rOwn,zcj,O,h3,I,I64,zfr,zak]
 refine⟨⟨by omega,by omega⟩,⟨by omega,by omega⟩,?_⟩
 refine zax mixed (λk:Nat=>{n:=136,next:=5,slots:=(20,.d (int k))::zf1 w nx F G,own:=rOwn d g ps {d with notes:=zlw d w nx F G k} })
  (λk=>k<=F.length) (λk=>F.length-k) 0 (Nat.zero_le _) ?_ ?_
 .simp+decide[int,zf1,rOwn,zcj,zlw,newK,zak]
  exact zff g
 intro i hi
 refine zas mixed ?_
 by_cases L:i<F.length
 case neg=>
  have:i=F.length:=by omega
  subst this;rw[V];subst hE;simp+decide[int,zf1,rOwn,zcj,ymg,zak]
 have K:(i:Int)<F.length:=by omega
 obtain⟨s,es⟩:∃ s,F[i]=s:=⟨_,rfl⟩
 have e1:F[i]?=some s:=by rw[List.getElem?_eq_getElem L,es]
 have T:i<G.length:=by omega
 have J:(i:Int)<G.length:=by omega
 obtain⟨u,eu⟩:∃ u,G[i]=u:=⟨_,rfl⟩
 have e2:G[i]?=some u:=by rw[List.getElem?_eq_getElem T,eu]
 have hsn:=z5f d w nx F G i
 have Hc:=ybp d w nx F G i
 rw[e1,e2] at hsn
 simp only[Option.getD_some] at hsn
 generalize zlw d w nx F G i=M at hsn Hc
 have N:=z8u {d with notes:=M} ⟨nx+2*i,zcr d.tiers 3,w,0,0,i,s⟩ (by simp only;omega)
 have Z:=z8u {d with notes:=putN M ⟨nx+2*i,zcr d.tiers 3,w,0,0,i,s⟩} ⟨nx+2*i+1,zcr d.tiers 4,nx+2*i,0,0,0,u⟩ (by simp only;rw[(zh0 _ _).length_eq];simp only[List.length_cons];omega)
 simp only[docD,Dc.row,Nt.row] at N Z
 generalize putN M ⟨nx+2*i,zcr d.tiers 3,w,0,0,i,s⟩=M1 at N Z hsn
 generalize putN M1 ⟨nx+2*i+1,zcr d.tiers 4,nx+2*i,0,0,0,u⟩=M2 at Z hsn
 simp+decide[int,zf1,rOwn,zcj,L,K,T,J,es,e1,eu,e2,I64]
 refine zjj mixed 14 (by rfl) (by rfl) (by rfl) (by rfl) (by simp) ?_
 simp+decide[int,zcj,L,K,T,J,es,e1,eu,e2,I64]
 refine⟨⟨by omega,by omega⟩,⟨by omega,by omega⟩,?_⟩
 refine zaa (by rfl) (by rfl) H6 (by simp[D.scalar]) ?_
 simp+decide[int,zcj,L,K,T,J,es,e1,eu,e2,I64]
 refine zai.pure (by rfl) N (by simp) ?_
 simp+decide[int,zcj]
 refine zjj mixed 17 (by rfl) (by rfl) (by rfl) (by rfl) (by simp) ?_
 simp+decide[int,zcj,L,K,T,J,es,e1,eu,e2,I64]
 refine⟨⟨by omega,by omega⟩,⟨by omega,by omega⟩,⟨by omega,by omega⟩,?_⟩
 refine zaa (by rfl) (by rfl) H7 (by simp[D.scalar]) ?_
 simp+decide[int,zcj,L,K,T,J,es,e1,eu,e2,I64]
 refine⟨⟨by omega,by omega⟩,⟨by omega,by omega⟩,?_⟩
 refine zai.pure (by rfl) Z (by simp) ?_
 simp+decide[int,zcj,I64]
 exact⟨⟨by omega,by omega⟩,i+1,L,by omega,by omega,zff g,by rw[hsn]⟩
abbrev IncN(l:List Nt):Prop:=l.Pairwise λa b=>a.id<b.id
theorem z8w{n:Nt}:∀ {l:List Nt},IncN l->(∀ x∈l,x.id≠n.id)->IncN (putN l n)
 | [],_,_=>by simp[putN,IncN]
 |a::l,h,H=>by
  have G:=List.pairwise_cons.1 h;by_cases c:n.id<a.id
  .have:putN (a::l) n=n::a::l:=by unfold putN;simp[c]
   rw[this];refine List.pairwise_cons.2 ⟨λx F=>?_,h⟩
   rcases List.mem_cons.1 F with rfl | F
   .exact c
   .have:=G.1 x F;omega
  .have:putN (a::l) n=a::putN l n:=by unfold putN;simp[c]
   rw[this];have E:=H a List.mem_cons_self;refine List.pairwise_cons.2 ⟨λx F=>?_,z8w G.2 λx F=>H x (List.mem_cons_of_mem _ F)⟩
   rcases List.mem_cons.1 ((zh0 l n).mem_iff.1 F) with rfl | F
   .omega
   .exact G.1 x F
theorem ztm:∀ (m l:List Nt),IncN l->IncN m->(∀ n∈m,∀ x∈l,x.id≠n.id)->IncN (m.foldl putN l)/\(m.foldl putN l).Perm (l++m)
 | [],l,h,_,_=>⟨h,by simp⟩
 |n::m,l,h,H,G=>by
  have F:=List.pairwise_cons.1 H;rw[List.foldl_cons];obtain⟨E,h2⟩:=ztm m (putN l n) (z8w h (G n List.mem_cons_self)) F.2 λk K x J=>by
   rcases List.mem_cons.1 ((zh0 l n).mem_iff.1 J) with rfl | J
   .have:=F.1 k K;omega
   .exact G k (List.mem_cons_of_mem _ K) x J
  refine⟨E,h2.trans ?_⟩
  refine((zh0 l n).append_right m).trans ?_
  simp only[List.cons_append];exact List.perm_middle.symm
theorem ybr{l:List Nt}(h:(l.map (·.id)).Nodup):IncN (zgk l):=by
 have G:=zx7 l
 have h2:((zgk l).map (·.id)).Nodup:=((zs5 l).map _).nodup_iff.2 h
 rw[List.nodup_iff_pairwise_ne,List.pairwise_map] at h2
 exact(List.pairwise_and_iff.2 ⟨G,h2⟩).imp λ{a b} H=>by have:=H.1;have:=H.2;omega
theorem zr3{d:Dc}{w nx:Int}{F G:List ByteArray}:∀ (k:Nat),IncN (newK d w nx F G k)/\∀ n∈newK d w nx F G k,∃ j:Nat,j<2*k/\n.id=nx+j
 |0=>⟨by simp[newK,IncN],by simp[newK]⟩
 |k+1=>by
  obtain⟨H,h2⟩:=zr3 (d:=d) (w:=w) (nx:=nx) (F:=F) (G:=G) k;rw[znw];refine⟨List.pairwise_append.2 ⟨H,by simp[newG];omega,λa E b K=>?_⟩,λn J=>?_⟩
  .obtain⟨j,L,e⟩:=h2 a E
   simp only[newG,List.mem_cons,List.not_mem_nil,or_false] at K;rcases K with rfl | rfl <;> simp only <;> omega
  .rcases List.mem_append.1 J with J | J
   .obtain⟨j,L,e⟩:=h2 n J
    exact⟨j,by omega,e⟩
   .simp only[newG,List.mem_cons,List.not_mem_nil,or_false] at J
    rcases J with rfl | rfl
    .exact⟨2*k,by omega,by simp only;omega⟩
    .exact⟨2*k+1,by omega,by simp only;omega⟩
theorem yfm{l:List Nt}{x:Nt}(h:x∈l):(getN l x.id).2=true:=by
 unfold getN
 cases H:l.find? λm=>decide (m.id=x.id) with
 |none=>rw[List.find?_eq_none] at H;exact absurd (H x h) (by simp)
 |some m=>rfl
theorem z5g{l:List Nt}{nx:Int}{k:Nat}(h:zfz l nx k=false){x:Nt}(H:x∈l){j:Nat}(G:j<k):x.id≠nx+j:=by
 intro e
 unfold zfz at h
 have:=List.any_eq_false.1 h j (List.mem_range.2 G)
 rw[<-e,yfm H] at this
 exact this rfl
theorem z07{d:Dc}(h:Rgt d)(w:Int):IncN (zbf d w):=h.inc.sublist List.filter_sublist
theorem zwj{d:Dc}{w nx:Int}{F G:List ByteArray}{k:Nat}(h:zfz (zbf d w) nx (2*k)=false):∀ n∈newK d w nx F G k,∀ x∈zbf d w,x.id≠n.id:=by
 intro n H x E e
 obtain⟨j,K,e2⟩:=(zr3 k).2 n H
 exact z5g h E K (by rw[e,e2])
theorem yjn{d:Dc}(h:Rgt d){w nx:Int}{F G:List ByteArray}{k:Nat}(H:zfz (zbf d w) nx (2*k)=false):((zbf d w++newK d w nx F G k).map (·.id)).Nodup:=by
 rw[List.nodup_iff_pairwise_ne,List.pairwise_map,List.pairwise_append]
 exact⟨(z07 h w).imp λ{a b} e=>by omega,(zr3 k).1.imp λ{a b} e=>by omega,λa E b K=>zwj H b K a E⟩
theorem yjo{d:Dc}(h:Rgt d)(w nx:Int)(F G:List ByteArray)(H:zfz (zbf d w) nx (2*F.length)=false):zlw d w nx F G F.length=zgk (zbf d w++newK d w nx F G F.length):=by
 obtain⟨E,h2⟩:=ztm (newK d w nx F G F.length) (zbf d w) (z07 h w) (zr3 _).1 (zwj H)
 exact List.Perm.eq_of_pairwise (le:=λa b=>a.id<b.id) (λa b _ _ r1 r2=>by omega) E (ybr (yjn h H)) (h2.trans (zs5 _).symm)
theorem yfn{d:Dc}(h:Rgt d)(g:Lang)(H:LightF g)(E:LangC g)(w:Int)(ps:List Prt)(K:ps.length<2^20)(nx:Int):
  zan Tryz.prog 27 [docD d,g.d,int w,anaD ps,int nx] (.tup [docD (zgp d g w ps nx).1,int (zgp d g w ps nx).2]):=by
 by_cases J:(zee d w).2=0
 .unfold zee at J
  cases L:zep d with
  |false=>rw[if_pos L] at J;cases J
  |true=>
   rw[if_neg (by rw[L];decide)] at J
   cases M:zc1 d w with
   |false=>rw[if_pos M] at J;cases J
   |true=>exact ybq h g H E w ps K nx L M λF G ht=>yjo h w nx F G ht
 .exact zyh h g w ps nx J
theorem z08:zan Tryz.prog 63 [.sl []] (int 0):=by
 refine zab mixed Tryz.func63 rfl c_63 ?_
 simp[Tryz.f63]
 refine zae mixed (λk:Nat=>{n:=74,next:=0,slots:=[(0,.d (.sl [])),(6,.d (.sl [])),(7,.d (.int .i64 0)),(8,.d (.int .i64 k))],own:=[]})
  (λk=>k=0) (λk=>k) 0 (by simp) (by simp) ?_
 intro k H
 subst H
 simp+decide[int,I64]
theorem ymk(d:Dc)(hs:∀ t∈d.tiers,t.name.size<=9223372036854775807)(G:∀ n∈d.notes,n.text.size<=9223372036854775807)(g:Lang)(F:LangC g):
  zf7 Tryz.prog 25 [docD d,g.d,.sl []] (λv=>∃ b,v = .bool b/\(b=true->zlq d=true/\LightF g)):=by
 refine za3 mixed Tryz.func25 rfl c_25 ?_
 simp+decide[Tryz.f25,int,docD,Dc.row,Lang.d,zaz]
 refine zai.pure (by rfl) (yh8 d hs G) (by simp[D.scalar]) ?_
 cases H:zlq d with
 |false=>simp+decide[int]
 |true=>
  simp+decide[int];refine zai.some (by rfl) (ybh g F) ?_
  rintro r ⟨b,rfl,E⟩
  cases b with
  |false=>simp+decide[int]
  |true=>
   simp+decide[int];refine zai.pure (by rfl) z08 (by simp[D.scalar]) ?_
   simp+decide[int];exact E rfl
theorem yfo{d:Dc}(h:d.fit)(g:Lang)(w:Int)(ps:List Prt)(nx:Int):(zgp d g w ps nx).1.fit:=by
 have H:zo8.fit:=⟨by simp[zo8],by simp[zo8],by simp[zo8]⟩
 unfold zgp
 repeat' split
 all_goals first | exact H | skip
 rename_i G
 refine⟨?_,h.tiers,h.spk⟩
 show(zgk _).length<=320
 rw[zio,List.length_append,znx]
 omega
theorem yfp(d:Dc)(hs:∀ t∈d.tiers,t.name.size<=9223372036854775807)(H:∀ n∈d.notes,n.text.size<=9223372036854775807)(g:Lang)(G:LangC g)(w:Int)(ps:List Prt)(F:ps.length<=1048576)(nx:Int):
  zan Tryz.prog 6 [docD d,g.d,int w,anaD ps,int nx] (.bool true):=by
 refine zab mixed Tryz.func6 rfl c_6 ?_
 by_cases c1:(6:Int)<ps.length
 .simp+decide[Tryz.f6,int,anaD,zat,docD,Dc.row,Lang.d,zaz,c1]
  refine zai.pure (by rfl) zsq (by simp) ?_
  simp+decide
 simp+decide[Tryz.f6,int,anaD,zat,docD,Dc.row,Lang.d,zaz,c1]
 refine zai.some (by rfl) (ymk d hs H g G) ?_
 rintro r ⟨b,rfl,E⟩
 cases b with
 |false=>
  simp+decide[int];refine zai.pure (by rfl) zsq (by simp) ?_
  simp+decide
 |true=>
  obtain⟨K,J⟩:=E rfl;obtain⟨L,h2,M,O⟩:=z4b K;have Q:=yof O g J G w (yat O (by omega) w) ps (by omega) nx
  have T:=yfn O g J G w ps (by omega) nx
  have V:=yas (zgp d g w ps nx).1 (zgp d g w ps nx).1 (yfo ⟨by omega,by omega,by omega⟩ g w ps nx)
  rw[decide_eq_true rfl] at V;generalize zgp d g w ps nx=z at *;obtain⟨x,e⟩:=z;simp only at Q T V
  simp+decide[int];refine zai.pure (by rfl) Q (by simp) ?_
  simp+decide[int,docD,Dc.row];refine zai.pure (by rfl) T (by simp) ?_
  simp+decide[int,docD,Dc.row];refine zai.pure (by rfl) V (λ_=>rfl) ?_
  simp+decide[int,docD,Dc.row];refine zai.pure (by rfl) zsq (λ_=>rfl) ?_
  simp+decide[int]
def zis(n:Int):Prop:=(Lit.int .i64 n).wf=true
def ye8(l:List Int):Prop:=l.length<=maxLen/\∀ n∈l,zis n
theorem z5h{d:D}(h:FitD d (.sl [.int .i64])):∃ l,d=ints l/\ye8 l:=by
 obtain⟨xs,rfl,H,h2⟩:=FitD.zjq (row:=λn=>[int n]) (good:=zis) (λr G=>by
  obtain⟨_,_,rfl,g1,r1⟩:=G.zaj;obtain rfl:=r1.zb0;obtain⟨n,rfl,F⟩:=g1.za7;exact⟨n,rfl,F⟩) h
 exact⟨xs,rfl,H,h2⟩
abbrev yk1:List Sh:=[.str,.int .i64,.int .i64,.int .i64]
abbrev yk2:List Sh:=[.int .i64,.int .i64,.int .i64,.int .i64,.int .i64,.int .i64,.str]
abbrev ymm:List Sh:=[.int .i64,.str,.int .i64,.int .i64,.sl [.int .i64],.sl yk1,.sl yk2]
def Tir.ok(t:Tir):Prop:=t.name.size<=maxLen/\zis t.kind/\zis t.role/\zis t.par
structure Nt.ok(n:Nt):Prop where
 id:zis n.id
 tier:zis n.tier
 par:zis n.par
 fr:zis n.fr
 tO:zis n.tO
 rank:zis n.rank
 text:n.text.size<=maxLen
structure Dc.ok(d:Dc):Prop where
 id:zis d.id
 name:d.name.size<=maxLen
 len:zis d.len
 day:zis d.day
 spk:ye8 d.spk
 tiers:d.tiers.length<=maxLen/\∀ t∈d.tiers,t.ok
 notes:d.notes.length<=maxLen/\∀ n∈d.notes,n.ok
theorem z5i{r:List D}(h:zb2 r yk1):∃ t:Tir,r=t.row/\t.ok:=by
 obtain⟨_,_,rfl,g1,r1⟩:=h.zaj
 obtain⟨_,_,rfl,g2,r2⟩:=r1.zaj
 obtain⟨_,_,rfl,g3,r3⟩:=r2.zaj
 obtain⟨_,_,rfl,g4,r4⟩:=r3.zaj
 obtain rfl:=r4.zb0
 obtain⟨a,rfl,wa⟩:=g1.zed
 obtain⟨b,rfl,wb⟩:=g2.za7
 obtain⟨c,rfl,wc⟩:=g3.za7
 obtain⟨e,rfl,we⟩:=g4.za7
 exact⟨⟨a,b,c,e⟩,rfl,wa,wb,wc,we⟩
theorem z5j{r:List D}(h:zb2 r yk2):∃ n:Nt,r=n.row/\n.ok:=by
 obtain⟨_,_,rfl,g1,r1⟩:=h.zaj
 obtain⟨_,_,rfl,g2,r2⟩:=r1.zaj
 obtain⟨_,_,rfl,g3,r3⟩:=r2.zaj
 obtain⟨_,_,rfl,g4,r4⟩:=r3.zaj
 obtain⟨_,_,rfl,g5,r5⟩:=r4.zaj
 obtain⟨_,_,rfl,g6,r6⟩:=r5.zaj
 obtain⟨_,_,rfl,g7,r7⟩:=r6.zaj
 obtain rfl:=r7.zb0
 obtain⟨a,rfl,wa⟩:=g1.za7
 obtain⟨b,rfl,wb⟩:=g2.za7
 obtain⟨c,rfl,wc⟩:=g3.za7
 obtain⟨e,rfl,we⟩:=g4.za7
 obtain⟨f,rfl,wf⟩:=g5.za7
 obtain⟨g,rfl,wg⟩:=g6.za7
 obtain⟨s,rfl,ws⟩:=g7.zed
 exact⟨⟨a,b,c,e,f,g,s⟩,rfl,wa,wb,wc,we,wf,wg,ws⟩
theorem ybs{l:List D}(h:zb2 l ymm):∃ d:Dc,D.agg l=docD d/\d.ok:=by
 obtain⟨_,_,rfl,g1,r1⟩:=h.zaj
 obtain⟨_,_,rfl,g2,r2⟩:=r1.zaj
 obtain⟨_,_,rfl,g3,r3⟩:=r2.zaj
 obtain⟨_,_,rfl,g4,r4⟩:=r3.zaj
 obtain⟨_,_,rfl,g5,r5⟩:=r4.zaj
 obtain⟨_,_,rfl,g6,r6⟩:=r5.zaj
 obtain⟨_,_,rfl,g7,r7⟩:=r6.zaj
 obtain rfl:=r7.zb0
 obtain⟨a,rfl,wa⟩:=g1.za7
 obtain⟨b,rfl,wb⟩:=g2.zed
 obtain⟨c,rfl,wc⟩:=g3.za7
 obtain⟨e,rfl,we⟩:=g4.za7
 obtain⟨f,rfl,wf⟩:=z5h g5
 obtain⟨ts,rfl,wt1,wt2⟩:=FitD.zjq (row:=Tir.row) (good:=Tir.ok) (λr H=>z5i H) g6
 obtain⟨ns,rfl,wn1,wn2⟩:=FitD.zjq (row:=Nt.row) (good:=Nt.ok) (λr H=>z5j H) g7
 exact⟨⟨a,b,c,e,f,ts,ns⟩,rfl,wa,wb,wc,we,wf,⟨wt1,wt2⟩,wn1,wn2⟩
theorem z5k{l:List D}(h:zb2 l ymm):∃ d:Dc,D.agg l=docD d:=by
 obtain⟨d,e,_⟩:=ybs h
 exact⟨d,e⟩
theorem z8x{d:Dc}(h:CapT 1048576 (docD d)):(∀ t∈d.tiers,t.name.size<=9223372036854775807)/\(∀ n∈d.notes,n.text.size<=9223372036854775807):=by
 simp only[docD,Dc.row,CapT,Caps,Cap,ints,int,List.length_map,and_true] at h
 obtain⟨_,_,_,_,_,⟨t1,t2⟩,n1,n2⟩:=h
 refine⟨λt ht=>?_,λn hn=>?_⟩
 .have:=zer t2 t ht
  simp only[Tir.row,Caps,Cap,int] at this;omega
 .have:=zer n2 n hn
  simp only[Nt.row,Caps,Cap,int] at this;omega
theorem ybt(d:Dc)(c0:CapT 1048576 (docD d))(g:Lang)(c1:CapT 1048576 g.d)(w:Int)(c2:CapT 1048576 (int w))(a:List Prt)(c3:CapT 1048576 (anaD a))(nx:Int)(c4:CapT 1048576 (int nx)):
  zan Tryz.prog 6 [docD d,g.d,int w,anaD a,int nx] (.bool true):=
 yfp d (z8x c0).1 (z8x c0).2 g (yfc c1) w a (ymb c3) nx
end Go.V.Doc

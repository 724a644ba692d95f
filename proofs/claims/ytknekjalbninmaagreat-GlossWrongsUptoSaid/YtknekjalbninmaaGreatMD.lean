/- Contracts and plain laws of this seat: part MD. It needs no conditions. -/
import Derived.Test.YtknekjalbninmaaGreatMC
import Derived.Test.YtknekjalbninmaaGreatMB
import Derived.Test.YtknekjalbninmaaGreatSw
import Derived.WalkKit
import Derived.BigCall
import Derived.KernelRfl
import Derived.Shelf.Strings.Builder1
import Derived.Test.YtknekjalbninmaaGreatMA
set_option maxHeartbeats 32000000
set_option linter.unusedVariables false
set_option linter.unusedSimpArgs false
set_option linter.unusedSectionVars false
set_option maxRecDepth 100000
namespace Go.V.Doc
open Go Go.Proofs Go.Sort Go.RowKit
theorem Um{a b:Nt}:uv a b=true↔a.id<b.id:=by
 unfold uv ltOf ZG
 rw[decide_eq_true_eq]
 simp only[xq]
 repeat' split
 all_goals omega
theorem Bi:SWO uv where
 irrefl:=λx=>by rw[<-Bool.not_eq_true,Um];omega
 trans:=λx y z H h2=>by rw[Um] at *;omega
 ntrans:=λx y z H h2=>by rw[<-Bool.not_eq_true,Um] at *;omega
def Ys(l:List Nt):List Nt:=(pdq uv l.toArray 0 l.length (Lib.bitLen l.length) true true).toList
theorem Sj(l:List Nt):PermIn 0 l.length l.toArray (pdq uv l.toArray 0 l.length (Lib.bitLen l.length) true true)/\SortedIn uv 0 l.length (pdq uv l.toArray 0 l.length (Lib.bitLen l.length) true true):=
 pdq_sorts uv Bi l.toArray 0 l.length (Lib.bitLen l.length) true true (Nat.zero_le _) (by simp) (Or.inl rfl)
theorem Sk(l:List Nt):(Ys l).length=l.length:=by
 have:=(Sj l).1.1
 unfold Ys
 rw[Array.length_toList,this];simp
theorem Sl(l:List Nt)(F:l≠[])(K:l.length<4611686018427387904):
  zJ Tryz.prog 65 [.ar 0,.fn 66 []] [(0,.arr 72 7 (l.map Nt.row))] 1 (.d (.tup [])) 1 [(0,.arr 72 7 ((Ys l).map Nt.row))] []:=by
 refine Gf gj c_65 F (Sk l) ?_
 intro w E β vs G H g cap J L M
 simp only[zl,Sm] at G
 obtain⟨_,_,rfl,⟨_,rfl,rfl⟩,rfl⟩:=G
 have:=AnyQ.slices_SortFunc_eq Tryz.zg4 7 C6 C7 Nt.enc gj.len gj.one ZG Bi 66 #[] g 0 cap l.toArray w Si
  (Sg H L) M J (by simpa using K)
 change Calls Tryz.prog 65 _ _ _ at this
 have e:(pdq (ltOf ZG) l.toArray 0 l.toArray.size (Lib.bitLen l.toArray.size) true true)=(Ys l).toArray:=by
  unfold Ys uv;simp
 rw[e] at this
 simpa using this
def Bj(l:List Nt)(n:Nt):List Nt:=l.takeWhile (λm=>!decide (n.id<m.id))++n::l.dropWhile (λm=>!decide (n.id<m.id))
def Q8(l:List Nt)(n:Nt)(k:Nat):List Nt×Bool:=if (l.take k).all (λm=>!decide (n.id<m.id))=true then (l.take k,false) else (Bj (l.take k) n,true)
end Go.V.Doc
namespace Go.Proofs
open Go.RowKit Go.Shelf
theorem Un:(Tryz.prog.info? 166).map (·.size)=some 2:=by kernel_rfl
theorem Bl:liesAt Tryz.prog Tryz.prog.depth 166 (2/Tryz.prog.cellsOf 166) 0 166 1=true:=by kernel_rfl
theorem So(b:Nat)(w:World)(H:w.cell? ⟨b,0,none⟩=some (.pointer (some ⟨b,0,none⟩))):
  Calls Tryz.prog 159 #[.pointer (some ⟨b,0,none⟩)] w λe w'=>e = .returned (.tuple #[])/\w'=w:=by
 obtain⟨j,hj,_⟩:=Option.map_eq_some_iff.1 Un
 go_enter Tryz.func159,Tryz.ntmps159
 go_wp2
 rw[Lib.run_neq_ptr_same w _ Tryz.underlying163 hj]
 go_wp2
 go_end0
 exact⟨rfl,rfl⟩
theorem Sq(b:Nat)(w:World)(E:w.cell? ⟨b,0,none⟩=some (.pointer none))(H:w.shape? b=some (166,2))(F:w.frozen? ⟨b,0,none⟩=false):
  Calls Tryz.prog 159 #[.pointer (some ⟨b,0,none⟩)] w λe w'=>e = .returned (.tuple #[])/\w'=w.setCell ⟨b,0,none⟩ (.pointer (some ⟨b,0,none⟩)):=by
 obtain⟨j,hj,G⟩:=Option.map_eq_some_iff.1 Un
 go_enter Tryz.func159,Tryz.ntmps159
 go_wp2
 rw[Lib.run_to_unsafe w ⟨b,0,none⟩ Tryz.underlying163 Tryz.underlying258 hj (by rw[G];decide) H (Nat.zero_lt_succ 1)]
 simp only[Result.andThen]
 rw[Oper.upon_value]
 go_wp2
 rw[run_callFunc_extern Tryz.func205 (by kernel_rfl) (by kernel_rfl) (by kernel_rfl) (e:=Extern.AbiNoEscape.same) (by kernel_rfl)]
 rw[Lib.run_noEscape]
 simp only[Result.andThen]
 rw[Oper.upon_value]
 go_wp2
 rw[Lib.run_from_unsafe w ⟨b,0,none⟩ Tryz.underlying258 Tryz.underlying163 hj H Bl]
 simp only[Result.andThen]
 rw[Oper.upon_value]
 go_wp2
 go_end0
 exact⟨rfl,rfl⟩
theorem Sr:Builder.X72 Tryz.prog Tryz.bldStr_ren:=⟨Un,Bl⟩
theorem Ss:Builder.Extra Tryz.prog Tryz.bldStr_ren:={Sr with
 t5:=Tryz.underlying5
 a5:=Tryz.isAgg5
 z5:=Tryz.sizeOf5
 v5:=Tryz.zeroValue5
 infoByte:=by kernel_rfl
 cellsByte:=by kernel_rfl
 sizeByte:=by kernel_rfl
 neB5:=by decide}
end Go.Proofs
namespace Go.V
open Go Go.Proofs
def VZ(S m:Nat):List (List D):=(yj S m).map λb=>[.bool b]
theorem Sv(n:Nett)(O:NetL n)(m:Nat)(c:Int):
  wO Tryz.prog 206 [.agg n.cells,y0 (yj n.states.toNat m),int c] 4 1 (VZ n.states.toNat (yI n.steps m c)):=by
 have Q:=O.lo
 have T:=O.hi
 have K:=O.few
 refine Xn mixed Tryz.func206 rfl c_206 (by intro r V;unfold VZ at V;rw[List.mem_map] at V;obtain⟨b,_,rfl⟩:=V;rfl) ?_
 simp+decide[Tryz.f206,Nett.cells,int,ints,y0]
 refine⟨by omega,by omega,by unfold maxLen;omega,?_⟩
 refine zr mixed (λk:Nat=>{n:=45,next:=3,slots:=[(1,.d (y0 (yj n.states.toNat m))),(2,.d (int c)),(3,.bp 0 0),(7,.ar 2),(8,.d (int k))],own:=[(0,.box 33 (n.cells.map .d)),(2,.arr 4 1 ((yj n.states.toNat (yI (n.steps.take k) m c)).map λb=>[.bool b]))],moved:=[]})
  (λk=>k<=n.steps.length) (λk=>n.steps.length-k) 0 (by simp) (by simp+decide[int,ints,yI,Vx,Nett.cells,y0]) ?_
 intro k X
 by_cases H:k<n.steps.length
 case neg=>
  have:k=n.steps.length:=by omega
  subst this;rw[List.take_length];simp+decide[int,ints,y0,Nett.cells,stepsD,VZ]
 have G:(k:Int)<n.steps.length:=by omega
 have Y:=O.steps n.steps[k] (List.getElem_mem H)
 have hsn:yI (n.steps.take (k+1)) m c=gd m c (yI (n.steps.take k) m c) n.steps[k]:=by unfold yI;rw[y9 H,List.foldl_append];rfl
 obtain⟨x,eq⟩:∃ x,n.steps[k]=x:=⟨_,rfl⟩
 have e1:n.steps[k]?=some x:=by rw[List.getElem?_eq_getElem H,eq]
 rw[eq] at Y hsn
 obtain⟨⟨q1,q2⟩,⟨q3,q4⟩,q5⟩:=Y
 have Z:=gb (S:=n.states.toNat) (m:=m) (q:=x.src.toNat) (by omega)
 have F:=Kj (S:=n.states.toNat) (m:=yI (n.steps.take k) m c) (q:=x.dst.toNat) (by omega)
 rw[show((x.dst.toNat:Nat):Int)=x.dst by omega] at F
 have J:=gb (S:=n.states.toNat) (m:=yI (n.steps.take k) m c) (q:=x.dst.toNat) (by omega)
 have E:(List.map (λb=>[D.bool b]) (yj n.states.toNat (yI (n.steps.take k) m c))).set x.dst.toNat [D.bool true]=List.map (λb=>[D.bool b]) (yj n.states.toNat (xJ (yI (n.steps.take k) m c) x.dst)):=by
  rw[<-F,List.map_set]
 unfold gd wj at hsn
 cases A:m.testBit x.src.toNat with
 |false=>
  rw[A] at Z hsn;rw[if_neg (by simp)] at hsn
  simp+decide[int,ints,H,G,eq,q1,Z,y0,Nett.cells,stepsD,Stp.row];exact⟨by omega,⟨by omega,by omega⟩,k+1,H,by omega,by omega,by rw[hsn]⟩
 |true=>
  rw[A] at Z hsn;by_cases B:c=0\/x.cls=c
  .rw[if_pos ⟨rfl,B⟩] at hsn
   simp+decide[int,ints,H,G,eq,q1,q3,Z,y0,Nett.cells,stepsD,Stp.row,J];refine⟨by omega,λC=>⟨λh=>⟨by omega,by omega,⟨by omega,by omega⟩,k+1,H,by omega,by omega,by rw[hsn];exact E⟩,λh=>absurd B (by rintro(I | I);exact C I;exact h I)⟩,λC=>⟨by omega,by omega,⟨by omega,by omega⟩,k+1,H,by omega,by omega,by rw[hsn];exact E⟩⟩
  .rw[if_neg (λh=>B h.2)] at hsn
   have L:¬c=0:=λh=>B (.inl h)
   have M:¬x.cls=c:=λh=>B (.inr h)
   simp+decide[int,ints,H,G,eq,q1,Z,y0,Nett.cells,stepsD,Stp.row,L,M];exact⟨by omega,⟨by omega,by omega⟩,k+1,H,by omega,by omega,by rw[hsn]⟩
def q8(l:List Stp):Nat->Nat->Nat
 |0,m=>m
 |k+1,m=>yI l (q8 l k m) 0 |||q8 l k m
def ju(S a b k:Nat):List Bool:=(List.range S).map λq=>if q<k then (a.testBit q || b.testBit q) else a.testBit q
@[simp] theorem zjz(S a b k:Nat):(ju S a b k).length=S:=by simp[ju]
theorem gJ{S a b k q:Nat}(h:q<(ju S a b k).length):(ju S a b k)[q]=if q<k then (a.testBit q || b.testBit q) else a.testBit q:=by simp[ju]
theorem Sw(S a b:Nat):ju S a b 0=yj S a:=by
 apply List.ext_getElem
 .simp
 .intro i H h2;rw[gJ,Zp];simp
theorem Sx(S a b:Nat):ju S a b S=yj S (a ||| b):=by
 apply List.ext_getElem
 .simp
 .intro i H h2
  have:i<S:=by simpa using H
  rw[gJ,Zp,if_pos this,Nat.testBit_or]
theorem Sy{S a b k:Nat}(h:k<S):(ju S a b k)[k]?=some (a.testBit k):=by
 rw[List.getElem?_eq_getElem (by simpa using h),gJ,if_neg (by omega)]
theorem Sz{S a b k:Nat}(h:k<S):(ju S a b k).set k (a.testBit k || b.testBit k)=ju S a b (k+1):=by
 apply List.ext_getElem
 .simp
 .intro i G h2
  rw[List.getElem_set,gJ];by_cases e:k=i
  .subst e;rw[if_pos rfl,gJ,if_pos (by omega)]
  .rw[if_neg e,gJ]
   by_cases H:i<k
   .rw[if_pos H,if_pos (by omega)]
   .rw[if_neg H,if_neg (by omega)]
theorem SA(n:Nett)(J:NetL n)(m:Nat):zi Tryz.prog 299 [.agg n.cells,y0 (yj n.states.toNat m)] (y0 (yj n.states.toNat (q8 n.steps n.states.toNat m))):=by
 have L:=J.lo
 have M:=J.hi
 refine zp mixed Tryz.func299 rfl c_299 ?_
 simp+decide[Tryz.f299,Nett.cells,int,ints]
 refine yg mixed (λr:Nat=>{n:=38,next:=2,slots:=[(1,.d (y0 (yj n.states.toNat (q8 n.steps r m)))),(2,.bp 0 0),(5,.d (int r))],own:=[(0,.box 33 (n.cells.map .d))],moved:=[2]})
  (λr=>r<=n.states.toNat) (λr=>n.states.toNat-r) 0 (by simp) (by simp+decide[int,ints,Nett.cells,q8]) ?_
 intro r O
 by_cases K:r<n.states.toNat
 .have G:(r:Int)<n.states:=by omega
  have Q:=Sv n J (q8 n.steps r m) 0;have hsn:q8 n.steps (r+1) m=yI n.steps (q8 n.steps r m) 0 ||| q8 n.steps r m:=rfl
  generalize q8 n.steps r m=b at Q hsn;generalize yI n.steps b 0=a at Q hsn;refine wh mixed 1 {n:=38,next:=2,slots:=[(1,.d (y0 (yj n.states.toNat b))),(2,.bp 0 0),(5,.d (int r))],own:=[(0,.box 33 (n.cells.map .d))],moved:=[2]} rfl (by simp+decide[yq,xW,int,ints,Nett.cells,G]) ?_
  simp only[yO];refine Y9 (Xt (wh mixed 2 {n:=38,next:=3,slots:=[(1,.d (y0 (yj n.states.toNat b))),(2,.bp 0 0),(5,.d (int r)),(6,.ar 2)],own:=[(0,.box 33 (n.cells.map .d)),(2,.arr 4 1 ((ju n.states.toNat a b n.states.toNat).map λb=>[.bool b]))],moved:=[2]} rfl ?_ ?_)) mixed
  .simp+decide[yq,int,ints,Nett.cells]
   refine zc.fresh (by rfl) Q (by simp) ?_
   simp+decide
   refine zr mixed (λk:Nat=>{n:=38,next:=3,slots:=[(1,.d (y0 (yj n.states.toNat b))),(2,.bp 0 0),(5,.d (int r)),(6,.ar 2),(7,.d (int k))],own:=[(0,.box 33 (n.cells.map .d)),(2,.arr 4 1 ((ju n.states.toNat a b k).map λb=>[.bool b]))],moved:=[2]})
    (λk=>k<=n.states.toNat) (λk=>n.states.toNat-k) 0 (by simp) (by simp+decide[int,ints,Nett.cells,Sw,VZ]) ?_
   intro k T;by_cases F:k<n.states.toNat
   .have H:(k:Int)<n.states:=by omega
    have g1:=Sy (a:=a) (b:=b) F;have g2:=gb (m:=b) F;have E:(List.map (λb=>[D.bool b]) (ju n.states.toNat a b k)).set k [D.bool (a.testBit k || b.testBit k)]=List.map (λb=>[D.bool b]) (ju n.states.toNat a b (k+1)):=by
     rw[<-Sz F,List.map_set]
    cases V:a.testBit k with
    |true=>
     rw[V] at g1 E;rw[Bool.true_or] at E;simp+decide[int,ints,Nett.cells,F,H,gJ,V,y0,I64];exact⟨by omega,⟨by omega,by omega⟩,k+1,F,by omega,by omega,E⟩
    |false=>
     rw[V] at g1 E;rw[Bool.false_or] at E;simp+decide[int,ints,Nett.cells,F,H,gJ,Zp,V,y0,I64];exact⟨by omega,⟨by omega,by omega⟩,k+1,F,by omega,by omega,E⟩
   .have:k=n.states.toNat:=by omega
    have H:¬(k:Int)<n.states:=by omega
    rw[this] at H ⊢;simp+decide[int,ints,Nett.cells,xW];omega
  .simp only[yO]
   refine uS [2] ?_
   refine zM mixed ?_
   rw[Sx,<-hsn];simp+decide[int,ints,Nett.cells,I64];exact⟨⟨by omega,by omega⟩,r+1,K,by omega,rfl,by omega⟩
 .have:r=n.states.toNat:=by omega
  have G:¬(r:Int)<n.states:=by omega
  rw[<-this];refine zM mixed ?_
  simp+decide[int,ints,Nett.cells,G]
def wz(n:Nett)(q:Nat):Bool:=qT n.states.toNat (q8 n.steps n.states.toNat (xJ 0 (q:Int))) (y6 n.final)
def qZ(n:Nett)(k:Nat):List Bool:=(List.range n.states.toNat).map λq=>decide (q<k)&&wz n q
def jO(n:Nett):Nat:=(List.range n.states.toNat).foldl (λm q=>if wz n q=true then m ||| (1 <<< q) else m) 0
theorem SB(n:Nett):qZ n 0=List.replicate n.states.toNat false:=by
 apply List.ext_getElem
 .simp[qZ]
 .intro i H h2;simp[qZ]
theorem SC{n:Nett}{k:Nat}(h:k<n.states.toNat):(qZ n k).set k (wz n k)=qZ n (k+1):=by
 apply List.ext_getElem
 .simp[qZ]
 .intro i H h2
  rw[List.getElem_set];simp only[qZ,List.getElem_map,List.getElem_range];by_cases e:k=i
  .subst e;simp
  .rw[if_neg e]
   congr 1
   have:(i<k)↔(i<k+1):=by omega
   simp[this]
theorem SD{n:Nett}{k:Nat}(h:k<n.states.toNat):(qZ n k)[k]?=some false:=by
 rw[List.getElem?_eq_getElem (by simpa[qZ] using h)]
 simp[qZ]
theorem Uo(f:Nat->Bool):∀ (l:List Nat) (m j:Nat),(l.foldl (λm q=>if f q=true then m ||| (1 <<< q) else m) m).testBit j=(m.testBit j || decide (j∈l/\f j=true))
 | [],m,j=>by simp
 |q::l,m,j=>by
  rw[List.foldl_cons,Uo f l];by_cases H:f q=true
  .rw[if_pos H,Ki]
   by_cases e:q=j
   .subst e;simp[H]
   .have e':¬j=q:=λh=>e h.symm
    simp[e,e']
  .rw[if_neg H]
   by_cases e:j=q
   .subst e;simp[H]
   .simp[e]
theorem SE(n:Nett):qZ n n.states.toNat=yj n.states.toNat (jO n):=by
 apply List.ext_getElem
 .simp[qZ]
 .intro i H G
  have hi:i<n.states.toNat:=by simpa using G
  rw[Zp];unfold jO;rw[Uo];simp[qZ,hi];intro _;omega
theorem SG(n:Nett)(K:NetL n):zi Tryz.prog 297 [.agg n.cells] (y0 (yj n.states.toNat (jO n))):=by
 have J:=K.lo
 have L:=K.hi
 refine zp mixed Tryz.func297 rfl c_297 ?_
 simp+decide[Tryz.f297,Nett.cells,int,ints]
 refine⟨by omega,by omega,by unfold maxLen;omega,?_⟩
 refine zr mixed (λk:Nat=>{n:=29,next:=3,slots:=[(1,.bp 0 0),(3,.ar 2),(4,.d (int k))],own:=[(0,.box 33 (n.cells.map .d)),(2,.arr 4 1 ((qZ n k).map λb=>[.bool b]))],moved:=[]})
  (λk=>k<=n.states.toNat) (λk=>n.states.toNat-k) 0 (by simp) (by simp+decide[int,ints,Nett.cells,SB]) ?_
 intro k M
 by_cases G:k<n.states.toNat
 .have H:(k:Int)<n.states:=by omega
  simp+decide[int,ints,Nett.cells,H];have O:=Vy n K [(k:Int)] (by intro q Q;rw[List.mem_singleton] at Q;omega) (by simp)
  have T:=SA n K (y6 [(k:Int)]);have V:=Vy n K n.final K.final K.few2;have X:=Kk n.states.toNat (q8 n.steps n.states.toNat (y6 [(k:Int)])) (y6 n.final) (by omega)
  have Y:qT n.states.toNat (q8 n.steps n.states.toNat (y6 [(k:Int)])) (y6 n.final)=wz n k:=rfl
  rw[Y] at X;have F:(List.map (λb=>[D.bool b]) (qZ n k)).set k [D.bool (wz n k)]=List.map (λb=>[D.bool b]) (qZ n (k+1)):=by
   rw[<-SC G,List.map_set]
  have Z:=SD G;have E:(qZ n k).length=n.states.toNat:=by simp[qZ]
  refine Zf mixed 14 [2] (by rfl) (by rfl) (by rfl) (by rfl) (by simp) ?_
  simp+decide
  refine zq (by rfl) (by rfl) O (by simp) ?_
  simp+decide
  refine zq (by rfl) (by rfl) T (by simp) ?_
  simp+decide
  refine zq (by rfl) (by rfl) V (by simp) ?_
  simp+decide
  refine zq (by rfl) (by rfl) X (by simp) ?_
  simp+decide[E,G,I64];exact⟨⟨by omega,by omega⟩,k+1,G,by omega,by omega,F⟩
 .have:k=n.states.toNat:=by omega
  have H:¬(k:Int)<n.states:=by omega
  rw[<-SE,<-this];simp+decide[int,ints,Nett.cells,H,y0]
def vu(n:Nett)(cs:List Int)(k:Nat):List Int:=((List.range k).map λ(i:Nat)=>(i:Int)+1).filter λc=>qT n.states.toNat (ym n.steps (yh n.steps cs) c) (jO n)
theorem SH(n:Nett)(cs:List Int)(k:Nat):vu n cs (k+1)=vu n cs k++(if qT n.states.toNat (ym n.steps (yh n.steps cs) ((k:Int)+1)) (jO n)=true then [(k:Int)+1] else []):=by
 unfold vu
 rw[List.range_succ,List.map_append,List.filter_append]
 congr 1
 by_cases h:qT n.states.toNat (ym n.steps (yh n.steps cs) ((k:Int)+1)) (jO n)=true
 .simp[h]
 .simp[h]
theorem Bm(n:Nett)(cs:List Int)(k:Nat):(vu n cs k).length<=k:=by
 unfold vu
 refine Nat.le_trans (List.length_filter_le ..) ?_
 simp
theorem SI(n:Nett)(E:NetL n)(cs:List Int)(K:cs.length<2^40):zi Tryz.prog 289 [.agg n.cells,ints cs] (ints (vu n cs 20)):=by
 have J:=E.lo
 have L:=E.hi
 refine zp mixed Tryz.func289 rfl c_289 ?_
 simp+decide[Tryz.f289,Nett.cells,int,ints]
 refine zc.pure (by rfl) (Ds n E cs K) (by simp) ?_
 simp+decide
 refine zc.pure (by rfl) (SG n E) (by simp) ?_
 simp+decide[y0]
 refine zr mixed (λk:Nat=>{n:=29,next:=3,slots:=[(2,.bp 0 0),(5,.ar 2),(6,.d (y0 (yj n.states.toNat (yh n.steps cs)))),(7,.d (y0 (yj n.states.toNat (jO n)))),(8,.d (int ((k:Int)+1)))],own:=[(0,.box 33 (n.cells.map .d)),(2,.arr 3 1 ((vu n cs k).map λn=>[int n]))],moved:=[2]})
  (λk=>k<=20) (λk=>20-k) 0 (by simp) (by simp+decide[int,ints,Nett.cells,y0,vu]) ?_
 intro k M
 by_cases G:k<20
 .have H:(k:Int)+1<=20:=by omega
  have hsn:=SH n cs k;have F:=Bm n cs k;have O:=Do n E (yh n.steps cs) ((k:Int)+1);rw[Kl E _ (by omega)] at O
  have Q:=Kk n.states.toNat (ym n.steps (yh n.steps cs) ((k:Int)+1)) (jO n) (by omega)
  simp+decide[int,ints,Nett.cells,y0,H];refine zc.pure (by rfl) O (by simp[y0]) ?_
  simp+decide[y0];refine zc.pure (by rfl) Q (by simp) ?_
  cases T:qT n.states.toNat (ym n.steps (yh n.steps cs) ((k:Int)+1)) (jO n) with
  |false=>
   rw[if_neg (by rw[T];decide),List.append_nil] at hsn
   simp+decide[I64];exact⟨⟨by omega,by omega⟩,k+1,G,by omega,by omega,by rw[hsn]⟩
  |true=>
   rw[if_pos T] at hsn;simp+decide[I64];exact⟨by omega,by unfold maxLen;omega,⟨by omega,by omega⟩,k+1,G,by omega,by omega,by rw[hsn];simp⟩
 .have:k=20:=by omega
  subst this;simp+decide[int,ints,Nett.cells]
theorem SJ(m:Nat)(q:Int)(j:Nat):(xJ m q).testBit j=(m.testBit j || decide (q.toNat=j)):=by unfold xJ;exact Ki m q.toNat j
theorem Bn(m:Nat)(c:Int)(j:Nat):∀ (l:List Stp) (out:Nat),(l.foldl (gd m c) out).testBit j=(out.testBit j || l.any λx=>m.testBit x.src.toNat&&(decide (c=0) || decide (x.cls=c))&&decide (x.dst.toNat=j))
 | [],out=>by simp
 |x::l,out=>by
  rw[List.foldl_cons,Bn m c j l,List.any_cons];unfold gd wj;by_cases h:m.testBit x.src.toNat=true/\(c=0\/x.cls=c)
  .rw[if_pos h,SJ,h.1]
   have:(decide (c=0) || decide (x.cls=c))=true:=by rcases h.2 with e | e <;> simp[e]
   rw[this,Bool.and_true,Bool.true_and,Bool.or_assoc]
  .rw[if_neg h]
   have:(m.testBit x.src.toNat&&(decide (c=0) || decide (x.cls=c)))=false:=by
    cases H:m.testBit x.src.toNat with
    |false=>rfl
    |true=>
     rw[Bool.true_and];have G:¬(c=0\/x.cls=c):=λe=>h ⟨H,e⟩
     simp only[Bool.or_eq_false_iff,decide_eq_false_iff_not];exact⟨λe=>G (.inl e),λe=>G (.inr e)⟩
   rw[this,Bool.false_and,Bool.false_or]
theorem ZH(l:List Stp)(m:Nat)(c:Int)(j:Nat):(yI l m c).testBit j=l.any λx=>m.testBit x.src.toNat&&(decide (c=0) || decide (x.cls=c))&&decide (x.dst.toNat=j):=by
 unfold yI;rw[Bn];simp
def Yt(s0 s1 s2 m:Nat):Nat:=(if m.testBit 0=true then s0 else 0) ||| (if m.testBit 1=true then s1 else 0) ||| (if m.testBit 2=true then s2 else 0)
def jP(s0 s1 s2:Nat):Nat->Nat->Nat
 |0,m=>m
 |k+1,m=>Yt s0 s1 s2 (jP s0 s1 s2 k m) |||jP s0 s1 s2 k m
theorem SK:∀ s0 m:Fin 2,Yt s0.val 0 0 (jP s0.val 0 0 1 m.val) ||| jP s0.val 0 0 1 m.val=jP s0.val 0 0 1 m.val:=by decide +kernel
theorem closed2:∀ s0 s1 m:Fin 4,Yt s0.val s1.val 0 (jP s0.val s1.val 0 2 m.val) ||| jP s0.val s1.val 0 2 m.val=jP s0.val s1.val 0 2 m.val:=by decide +kernel
theorem SL:∀ s0 s1 s2 m:Fin 8,Yt s0.val s1.val s2.val (jP s0.val s1.val s2.val 3 m.val) ||| jP s0.val s1.val s2.val 3 m.val=jP s0.val s1.val s2.val 3 m.val:=by decide +kernel
theorem Yu(q j:Nat):(1 <<< q).testBit j=decide (q=j):=by rw[Nat.one_shiftLeft,Nat.testBit_two_pow]
def vP(l:List Stp)(q:Nat):Nat:=yI l (1 <<< q) 0
theorem Bo(l:List Stp)(H:∀ x∈l,0<=x.src/\x.src<3)(m:Nat):yI l m 0=Yt (vP l 0) (vP l 1) (vP l 2) m:=by
 apply Nat.eq_of_testBit_eq
 intro j
 have G:∀ q,(vP l q).testBit j=l.any λx=>decide (q=x.src.toNat)&&decide (x.dst.toNat=j):=by
  intro q;unfold vP;rw[ZH];congr 1
  funext x
  rw[Yu];simp
 have hi:∀ q,(if m.testBit q=true then vP l q else 0).testBit j=(m.testBit q&&l.any λx=>decide (q=x.src.toNat)&&decide (x.dst.toNat=j)):=by
  intro q;cases h:m.testBit q with
  |true=>rw[if_pos rfl,G];rfl
  |false=>rw[if_neg (by decide)];simp
 unfold Yt
 rw[Nat.testBit_or,Nat.testBit_or,hi,hi,hi,ZH,Bool.eq_iff_iff]
 simp only[Bool.or_eq_true,Bool.and_eq_true,List.any_eq_true,decide_eq_true_eq]
 constructor
 .rintro⟨x,F,⟨E,_⟩,K⟩
  have J:=H x F;have:x.src.toNat=0\/x.src.toNat=1\/x.src.toNat=2:=by omega
  rcases this with e | e | e
  .rw[e] at E;exact .inl (.inl ⟨E,x,F,e.symm,K⟩)
  .rw[e] at E;exact .inl (.inr ⟨E,x,F,e.symm,K⟩)
  .rw[e] at E;exact .inr ⟨E,x,F,e.symm,K⟩
 .rintro((⟨h,x,F,e,K⟩ | ⟨h,x,F,e,K⟩) | ⟨h,x,F,e,K⟩) <;> exact⟨x,F,⟨by rw[<-e];exact h,by simp⟩,K⟩
theorem Bp(l:List Stp)(H:∀ x∈l,0<=x.src/\x.src<3)(m:Nat):∀ k,q8 l k m=jP (vP l 0) (vP l 1) (vP l 2) k m
 |0=>rfl
 |k+1=>by unfold q8 jP;rw[Bp l H m k,Bo l H]
theorem Bq{m S:Nat}(h:∀ j,m.testBit j=true->j<S):m<2^S:=by
 apply Nat.lt_pow_two_of_testBit
 intro j hj
 cases H:m.testBit j with
 |false=>rfl
 |true=>exact absurd (h j H) (by omega)
theorem Up{n:Nett}(H:NetL n)(q:Nat):vP n.steps q<2^n.states.toNat:=by
 apply Bq
 intro j hj
 unfold vP at hj
 rw[ZH,List.any_eq_true] at hj
 obtain⟨x,G,h⟩:=hj
 simp only[Bool.and_eq_true,decide_eq_true_eq] at h
 have:=(H.steps x G).2.1
 omega
theorem Br{n:Nett}(H:NetL n){q:Nat}(G:n.states.toNat<=q):vP n.steps q=0:=by
 apply Nat.eq_of_testBit_eq
 intro j
 rw[Nat.zero_testBit]
 unfold vP
 rw[ZH,List.any_eq_false]
 intro x F h
 rw[Yu] at h
 simp only[Bool.and_eq_true,decide_eq_true_eq] at h
 have:=(H.steps x F).1
 omega
theorem SN{n:Nett}(H:NetL n){m:Nat}(G:m<2^n.states.toNat):yI n.steps (q8 n.steps n.states.toNat m) 0 ||| q8 n.steps n.states.toNat m=q8 n.steps n.states.toNat m:=by
 have F:∀ x∈n.steps,0<=x.src/\x.src<3:=λx E=>by have:=(H.steps x E).1;have:=H.hi;omega
 rw[Bo _ F,Bp _ F]
 have K:=Up H 0
 have J:=Up H 1
 have L:=Up H 2
 have M:n.states.toNat=1\/n.states.toNat=2\/n.states.toNat=3:=by have:=H.lo;have:=H.hi;omega
 have z1:=λh=>Br H (q:=1) h
 have z2:=λh=>Br H (q:=2) h
 generalize vP n.steps 0=s0 at *
 generalize vP n.steps 1=s1 at *
 generalize vP n.steps 2=s2 at *
 rcases M with e | e | e
 .rw[e] at K G z1 z2 ⊢
  rw[z1 (by omega),z2 (by omega)]
  exact SK ⟨s0,K⟩ ⟨m,G⟩
 .rw[e] at K J G z2 ⊢
  rw[z2 (by omega)]
  exact closed2 ⟨s0,K⟩ ⟨s1,J⟩ ⟨m,G⟩
 .rw[e] at K J L G ⊢
  exact SL ⟨s0,K⟩ ⟨s1,J⟩ ⟨s2,L⟩ ⟨m,G⟩
def Sub(a b:Nat):Prop:=∀ j,a.testBit j=true->b.testBit j=true
theorem SO{l:List Stp}{a b:Nat}{c:Int}(h:Sub a b):Sub (yI l a c) (yI l b c):=by
 intro j hj
 rw[ZH,List.any_eq_true] at hj ⊢
 obtain⟨x,H,G⟩:=hj
 simp only[Bool.and_eq_true] at G ⊢
 exact⟨x,H,⟨h _ G.1.1,G.1.2⟩,G.2⟩
theorem Uq(l:List Stp)(m:Nat):∀ k,Sub m (q8 l k m)
 |0=>λ_ h=>h
 |k+1=>λj h=>by unfold q8;rw[Nat.testBit_or,Uq l m k j h,Bool.or_true]
theorem Ur{l:List Stp}{m R:Nat}(h:Sub m R)(H:yI l R 0 ||| R=R):∀ k,Sub (q8 l k m) R
 |0=>h
 |k+1=>λj hj=>by
  unfold q8 at hj;rw[Nat.testBit_or,Bool.or_eq_true] at hj;rcases hj with hj | hj
  .have:=SO (Ur h H k) j hj
   rw[<-H,Nat.testBit_or,this,Bool.true_or]
  .exact Ur h H k j hj
theorem sub_one{m q:Nat}(h:m.testBit q=true):Sub (1 <<< q) m:=by
 intro j hj
 rw[Yu,decide_eq_true_eq] at hj
 rw[<-hj];exact h
theorem Bs(q:Nat):xJ 0 (q:Int)=1 <<< q:=by unfold xJ;simp
theorem SQ{q S:Nat}(h:q<S):1 <<< q<2^S:=Bq λj hj=>by rw[Yu,decide_eq_true_eq] at hj;omega
theorem SR{n:Nett}(F:NetL n){x:Stp}(E:x∈n.steps)(h:wz n x.dst.toNat=true):wz n x.src.toNat=true:=by
 obtain⟨⟨s1,s2⟩,⟨d1,d2⟩,_⟩:=F.steps x E
 unfold wz at h ⊢
 rw[Bs] at h ⊢
 unfold qT at h ⊢
 rw[List.any_eq_true] at h ⊢
 obtain⟨j,hj,K⟩:=h
 rw[Bool.and_eq_true] at K
 refine⟨j,hj,?_⟩
 rw[Bool.and_eq_true]
 refine⟨?_,K.2⟩
 have G:=SN F (SQ (S:=n.states.toNat) (q:=x.src.toNat) (by omega))
 have H:=Uq n.steps (1 <<< x.src.toNat) n.states.toNat x.src.toNat (by rw[Yu];simp)
 generalize q8 n.steps n.states.toNat (1 <<< x.src.toNat)=R at G H ⊢
 refine Ur (R:=R) (sub_one ?_) G n.states.toNat j K.1
 rw[<-G,Nat.testBit_or,ZH,Bool.or_eq_true]
 left
 rw[List.any_eq_true]
 exact⟨x,E,by simp[H]⟩
theorem Bt{n:Nett}{q:Nat}(h:q<n.states.toNat):(jO n).testBit q=wz n q:=by
 unfold jO
 rw[Uo]
 simp[h]
def Dead(n:Nett)(s:Nat):Prop:=qT n.states.toNat s (jO n)=false
theorem Us{n:Nett}{s:Nat}:Dead n s↔∀ q,q<n.states.toNat->s.testBit q=true->wz n q=false:=by
 unfold Dead qT
 rw[List.any_eq_false]
 constructor
 .intro h q H hs
  have:=h q (List.mem_range.2 H)
  rw[hs,Bool.true_and,Bt H] at this;simpa using this
 .intro h q H
  have H:=List.mem_range.1 H;cases hs:s.testBit q with
  |false=>simp
  |true=>rw[Bt H,h q H hs];simp
theorem SS{n:Nett}(H:NetL n){s:Nat}(hs:s<2^n.states.toNat)(h:Dead n s){c:Int}(G:1<=c):Dead n (ym n.steps s c):=by
 rw[Us] at h ⊢
 intro q F E
 rw[<-Kl H s G,ZH,List.any_eq_true] at E
 obtain⟨x,K,J⟩:=E
 simp only[Bool.and_eq_true,decide_eq_true_eq] at J
 cases L:wz n q with
 |false=>rfl
 |true=>
  rw[<-J.2] at L;have M:=SR H K L;have:=(H.steps x K).1
  rw[h x.src.toNat (by omega) J.1.1] at M
  cases M
theorem Bu{n:Nett}(H:NetL n){s:Nat}(hs:s<2^n.states.toNat)(h:Dead n s):s &&& y6 n.final=0:=by
 rw[Us] at h
 apply Nat.eq_of_testBit_eq
 intro j
 rw[Nat.zero_testBit,Nat.testBit_and]
 cases G:s.testBit j with
 |false=>rfl
 |true=>
  rw[Bool.true_and];cases F:(y6 n.final).testBit j with
  |false=>rfl
  |true=>
   have hj:j<n.states.toNat:=by
    rcases Nat.lt_or_ge j n.states.toNat with E | E
    .exact E
    .have K:=Nat.testBit_lt_two_pow (i:=j) (Nat.lt_of_lt_of_le hs (Nat.pow_le_pow_right (by omega) E))
     rw[K] at G;cases G
   have J:=h j hj G;unfold wz qT at J;rw[List.any_eq_false] at J;have L:=J j (List.mem_range.2 hj);rw[Bs,Uq _ _ _ j (by rw[Yu];simp),F] at L
   exact absurd rfl L
def Q9(a b:Rf):Bool:=decide (a.rcd<b.rcd) || (decide (a.rcd=b.rcd)&&decide (a.note<b.note))
theorem SU(a b:Rf):zi Tryz.prog 234 [.agg a.row,.agg b.row] (.bool (Q9 a b)):=by
 refine zp mixed Tryz.func234 rfl c_234 ?_
 by_cases H:a.rcd<b.rcd
 .simp+decide[Tryz.f234,int,Rf.row,Q9,H]
 .by_cases G:a.rcd=b.rcd
  .simp+decide[Tryz.f234,int,Rf.row,Q9,H,G]
  .simp+decide[Tryz.f234,int,Rf.row,Q9,H,G]
theorem SV(a:Rf):zi Tryz.prog 233 [.agg a.row] (.bool (wo a.rcd&&wo a.note)):=by
 refine zp mixed Tryz.func233 rfl c_233 ?_
 simp+decide[Tryz.f233,int,Rf.row]
 refine zc.pure (by rfl) (XK a.rcd) (by simp[int]) ?_
 cases h:wo a.rcd with
 |false=>simp+decide[int]
 |true=>
  simp+decide[int];refine zc.pure (by rfl) (XK a.note) (by simp[int]) ?_
  simp+decide[int]
theorem SX(l:List Rf)(n:Int)(L:l.length<=1048576):xT Tryz.prog 202 [j4 l,int n] VC:=by
 refine qy mixed Tryz.func202 rfl c_202 ?_
 by_cases M:n<l.length
 .simp+decide[Tryz.f202,int,j4,M]
 simp+decide[Tryz.f202,int,j4,M]
 refine zr mixed (λk:Nat=>{n:=37,next:=0,slots:=[(0,.d (j4 l)),(5,.d (int k))],own:=[]})
  (λk=>k<=l.length) (λk=>l.length-k) 0 (by simp) (by simp+decide[int,j4]) ?_
 intro k O
 by_cases G:k<l.length
 .have H:(k:Int)<l.length:=by omega
  obtain⟨x,ex⟩:∃ x,l[k]=x:=⟨_,rfl⟩;have e1:l[k]?=some x:=by rw[List.getElem?_eq_getElem G,ex]
  simp+decide[int,j4,Rf.row,G,H,e1,ex];refine zc.pure (by rfl) (SV x) (by simp[int,Rf.row]) ?_
  cases Q:wo x.rcd&&wo x.note with
  |false=>simp+decide[int]
  |true=>
   by_cases E:k=0
   .subst E
    simp+decide[int,I64,j4];exact⟨1,G,by omega,by omega⟩
   .have F:(0:Int)<k:=by omega
    have K:k-1<l.length:=by omega
    obtain⟨y,ey⟩:∃ y,l[k-1]=y:=⟨_,rfl⟩;have ey1:l[k-1]?=some y:=by rw[List.getElem?_eq_getElem K,ey]
    have t1:((k:Int)-1).toNat=k-1:=by omega
    have t2:0<=(k:Int)-1:=by omega
    have t3:(k:Int)-1<l.length:=by omega
    simp+decide[int,I64,j4,Rf.row,E,F,G,H,e1,ex,ey,ey1,t1,t2,t3,K];intro _;refine⟨⟨by omega,by omega⟩,by omega,?_⟩
    refine zq (by rfl) (by rfl) (SU y x) (by simp[int,Rf.row]) ?_
    cases J:Q9 y x with
    |false=>simp+decide[int]
    |true=>
     simp+decide[int,I64,j4,F];exact⟨⟨by omega,by omega⟩,k+1,G,by omega,by omega⟩
 .have H:¬(k:Int)<l.length:=by omega
  simp+decide[int,j4,H]
theorem SY(e:Ent)(L:e.links.length<=1048576):xT Tryz.prog 201 [.agg e.row] (λx=>∃ n,x=int n/\(n=0->e.links.length<=12/\∀ l∈e.links,0<=l.kind/\l.kind<=5)):=by
 refine qy mixed Tryz.func201 rfl c_201 ?_
 by_cases M:(12:Int)<e.links.length
 .simp+decide[Tryz.f201,int,Ent.row,yP,M]
 simp+decide[Tryz.f201,int,Ent.row,yP,M]
 refine zr mixed (λk:Nat=>{n:=76,next:=1,slots:=[(1,.bp 0 0),(3,.d (int k))],own:=[(0,.box 102 (e.row.map .d))]})
  (λk=>k<=e.links.length/\∀ l∈e.links.take k,0<=l.kind/\l.kind<=5) (λk=>e.links.length-k) 0 (by simp) (by simp+decide[int,ints,Ent.row,yP]) ?_
 intro k ⟨O,Q⟩
 by_cases G:k<e.links.length
 .have H:(k:Int)<e.links.length:=by omega
  obtain⟨x,ex⟩:∃ x,e.links[k]=x:=⟨_,rfl⟩;have e1:e.links[k]?=some x:=by rw[List.getElem?_eq_getElem G,ex]
  have hsn:=y9 G;rw[ex] at hsn;by_cases b1:x.kind<0
  .simp+decide[int,ints,Ent.row,yP,Lnk.row,G,H,e1,ex,b1]
  by_cases b2:5<x.kind
  .simp+decide[int,ints,Ent.row,yP,Lnk.row,G,H,e1,ex,b1,b2]
  have J:∀ z∈e.links.take (k+1),0<=z.kind/\z.kind<=5:=by
   intro z T;rw[hsn] at T;rcases List.mem_append.1 T with h | h
   .exact Q z h
   .rw[List.mem_singleton] at h;rw[h];omega
  simp+decide[int,ints,Ent.row,yP,Lnk.row,G,H,e1,ex,b1,b2];refine zc.pure (by rfl) (XK x.dst) (by simp[int]) ?_
  cases V:wo x.dst with
  |false=>simp+decide[int]
  |true=>
   by_cases b3:x.dst=e.id
   .simp+decide[int,b3]
   by_cases E:k=0
   .subst E
    simp+decide[int,ints,Ent.row,yP,Lnk.row,I64,b3];exact⟨1,⟨G,J⟩,by omega,by omega⟩
   .have F:(0:Int)<k:=by omega
    have K:k-1<e.links.length:=by omega
    obtain⟨y,ey⟩:∃ y,e.links[k-1]=y:=⟨_,rfl⟩;have ey1:e.links[k-1]?=some y:=by rw[List.getElem?_eq_getElem K,ey]
    have t1:((k:Int)-1).toNat=k-1:=by omega
    have t2:0<=(k:Int)-1:=by omega
    have t3:(k:Int)-1<e.links.length:=by omega
    by_cases c1:x.kind<y.kind
    .simp+decide[int,ints,Ent.row,yP,Lnk.row,I64,b3,E,F,G,H,e1,ex,ey,ey1,t1,t2,t3,K,c1]
     exact λ_=>⟨⟨by omega,by omega⟩,by omega⟩
    .by_cases c2:x.kind=y.kind
     .by_cases c3:x.dst<=y.dst
      .simp+decide[int,ints,Ent.row,yP,Lnk.row,I64,b3,E,F,G,H,e1,ex,ey,ey1,t1,t2,t3,K,c1,c2,c3]
       exact λ_=>⟨⟨by omega,by omega⟩,by omega,⟨by omega,by omega⟩,by omega,⟨by omega,by omega⟩,by omega⟩
      .simp+decide[int,ints,Ent.row,yP,Lnk.row,I64,b3,E,F,G,H,e1,ex,ey,ey1,t1,t2,t3,K,c1,c2,c3]
       exact λ_=>⟨⟨by omega,by omega⟩,by omega,⟨by omega,by omega⟩,by omega,⟨by omega,by omega⟩,by omega,⟨by omega,by omega⟩,k+1,⟨G,J⟩,by omega,by omega⟩
     .simp+decide[int,ints,Ent.row,yP,Lnk.row,I64,b3,E,F,G,H,e1,ex,ey,ey1,t1,t2,t3,K,c1,c2]
      exact λ_=>⟨⟨by omega,by omega⟩,by omega,⟨by omega,by omega⟩,by omega,⟨by omega,by omega⟩,k+1,⟨G,J⟩,by omega,by omega⟩
 .have:k=e.links.length:=by omega
  subst this;rw[List.take_length] at Q;simp+decide[int,ints,Ent.row,yP];exact⟨by omega,Q⟩
structure EntF(inv:List Phon)(e:Ent):Prop extends WordsF inv e where
 senses:e.senses≠[]\/e.main≠0
 fewS:e.senses.length<=5
 links:e.links.length<=12
 kinds:∀ l∈e.links,0<=l.kind/\l.kind<=5
 gl:∀ s∈e.senses,xY s.x4=true
theorem SZ(inv:List Phon)(e:Ent)(H:EntC e):xT Tryz.prog 149 [.agg [zH inv],.agg e.row] (λx=>∃ n,x=int n/\(n=0->EntF inv e)):=by
 refine qy mixed Tryz.func149 rfl c_149 ?_
 simp+decide[Tryz.f149,int,Ent.row]
 refine zc.some (by rfl) (Pg inv e H) ?_
 rintro r ⟨n,rfl,G⟩
 by_cases F:n=0
 case neg=>simp+decide[int,F]
 have G:=G F
 simp+decide[int,F]
 refine zc.some (by rfl) (Pk e H) ?_
 rintro r ⟨m,rfl,E⟩
 by_cases K:m=0
 case neg=>simp+decide[int,K]
 have E:=E K
 simp+decide[int,K]
 refine zc.some (by rfl) (SY e H.links) ?_
 rintro r ⟨j,rfl,J⟩
 by_cases L:j=0
 case neg=>simp+decide[int,L]
 have J:=J L
 simp+decide[int,L]
 refine zc.some (by rfl) (SX e.refs 12 H.refs) ?_
 rintro r ⟨i,rfl⟩
 simp+decide[int]
 exact λ_=>⟨G,E.1.1,E.1.2,J.1,J.2,E.2⟩
theorem Ut(l:List Ent)(id:Int)(H:l.length<2^40):zi Tryz.prog 150 [zn l,int id] (.bool (zD l id).2):=by
 refine zp mixed Tryz.func150 rfl c_150 ?_
 have G:=XE l id (by omega)
 generalize zD l id=r at G ⊢
 obtain⟨e,ok⟩:=r
 simp+decide[Tryz.f150,int,zn]
 refine zc.pure (by rfl) G (by simp[zn,int]) ?_
 simp+decide[int,Ent.row]
structure LexC(l:List Ent):Prop where
 few:l.length<=1048576
 each:∀ e∈l,EntC e
structure LexF(inv:List Phon)(l:List Ent):Prop where
 each:∀ e∈l,EntF inv e
 up:∀ k (h:k+1<l.length),l[k].id<l[k+1].id
theorem T0(inv:List Phon)(l:List Ent)(C:LexC l):xT Tryz.prog 90 [.agg [zH inv],zn l] (λx=>∃ n,x=int n/\(n=0->LexF inv l)):=by
 have V:=C.few
 refine qy mixed Tryz.func90 rfl c_90 ?_
 by_cases I:(100:Int)<l.length
 .simp+decide[Tryz.f90,int,zn,I]
 simp+decide[Tryz.f90,int,zn,I]
 refine yg mixed (λk:Nat=>{n:=87,next:=1,slots:=[(1,.d (zn l)),(2,.bp 0 0),(13,.d (int l.length)),(14,.d (int k))],own:=[(0,.box 24 [.d (zH inv)])]})
  (λk=>k<=l.length/\(∀ e∈l.take k,EntF inv e)/\∀ j (h:j+1<l.length),j+1<k->l[j].id<l[j+1].id) (λk=>l.length-k) 0 ⟨by simp,by simp,λj h N=>absurd N (by omega)⟩ (by simp+decide[int,ints,zn]) ?_
 intro k ⟨P,S,Q⟩
 by_cases E:k<l.length
 .have K:(k:Int)<l.length:=by omega
  have W:=C.each l[k] (List.getElem_mem E);obtain⟨e,ee⟩:∃ e,l[k]=e:=⟨_,rfl⟩;have e1:l[k]?=some e:=by rw[List.getElem?_eq_getElem E,ee]
  have hsn:=y9 E;rw[ee] at hsn W;have hE:=SZ inv e W;refine wh mixed 2 {n:=87,next:=1,slots:=[(1,.d (zn l)),(2,.bp 0 0),(13,.d (int l.length)),(14,.d (int k))],own:=[(0,.box 24 [.d (zH inv)])]} rfl (by simp+decide[yq,xW,int,zn,E,K]) ?_
  simp only[yO];refine Y9 (Xt (wh mixed 1 {n:=87,next:=1,slots:=[(1,.d (zn l)),(2,.bp 0 0),(5,.d (int k)),(13,.d (int l.length)),(14,.d (int k))],own:=[(0,.box 24 [.d (zH inv)])]} rfl (by simp+decide[yq,xW,int,zn]) ?_)) mixed
  simp only[yO];refine Y9 ?_ mixed
  refine uc mixed 5 (by rfl) (by rfl) (by rfl) (by rfl) (by simp) ?_
  simp+decide[int,zn,Ent.row,E,K,ee,e1];refine zc.some (by rfl) hE ?_
  rintro r ⟨n,rfl,hF⟩
  by_cases hn:n=0
  case neg=>simp+decide[int,hn]
  have hF:=hF hn;have T:∀ x∈l.take (k+1),EntF inv x:=by
   intro x hx;rw[hsn] at hx;rcases List.mem_append.1 hx with h | h
   .exact S x h
   .rw[List.mem_singleton] at h;rw[h];exact hF
  by_cases O:k=0
  .subst O
   simp+decide[int,hn,zn,I64];exact⟨1,⟨E,T,λj h N=>absurd N (by omega)⟩,by omega,by omega⟩
  .have L:(0:Int)<k:=by omega
   have F:k-1<l.length:=by omega
   obtain⟨y,ey⟩:∃ y,l[k-1]=y:=⟨_,rfl⟩;have ey1:l[k-1]?=some y:=by rw[List.getElem?_eq_getElem F,ey]
   have t1:((k:Int)-1).toNat=k-1:=by omega
   have t2:0<=(k:Int)-1:=by omega
   have t3:(k:Int)-1<l.length:=by omega
   by_cases c1:e.id<=y.id
   .simp+decide[int,hn,zn,Ent.row,I64,O,L,E,K,e1,ee,ey,ey1,t1,t2,t3,F,c1]
    exact λ_=>⟨⟨by omega,by omega⟩,by omega⟩
   .simp+decide[int,hn,zn,Ent.row,I64,O,L,E,K,e1,ee,ey,ey1,t1,t2,t3,F,c1]
    refine λ_=>⟨⟨by omega,by omega⟩,by omega,⟨by omega,by omega⟩,k+1,⟨E,T,λj h N=>?_⟩,by omega,by omega⟩
    by_cases hj:j+1<k
    .exact Q j h hj
    .have X:j=k-1:=by omega
     subst X;have B:k-1+1=k:=by omega
     have:l[k-1+1]=e:=by rw[<-ee];congr 1
     rw[ey,this];omega
 .have:k=l.length:=by omega
  subst this;rw[List.take_length] at S;refine zM mixed ?_
  simp+decide[int,zn];have M:LexF inv l:=⟨S,λj h=>Q j h h⟩
  refine zr mixed (λk:Nat=>{n:=87,next:=1,slots:=[(1,.d (zn l)),(2,.bp 0 0),(44,.d (int l.length)),(45,.d (int k))],own:=[(0,.box 24 [.d (zH inv)])]})
   (λk=>k<=l.length) (λk=>l.length-k) 0 (by simp) (by simp+decide[int,ints,zn]) ?_
  intro i hi;by_cases J:i<l.length
  .have H:(i:Int)<l.length:=by omega
   have Y:=(S l[i] (List.getElem_mem J)).links;obtain⟨e,ee⟩:∃ e,l[i]=e:=⟨_,rfl⟩;have e1:l[i]?=some e:=by rw[List.getElem?_eq_getElem J,ee]
   rw[ee] at Y;by_cases hm:e.main=0
   .simp+decide[int,zn,Ent.row,yP,J,H,e1,ee,hm,I64]
    refine zr mixed (λm:Nat=>{n:=87,next:=1,slots:=[(1,.d (zn l)),(2,.bp 0 0),(7,.d (int i)),(44,.d (int l.length)),(45,.d (int i)),(69,.d (int e.links.length)),(70,.d (int m))],own:=[(0,.box 24 [.d (zH inv)])]})
     (λm=>m<=e.links.length) (λm=>e.links.length-m) 0 (by simp) (by simp+decide[int,ints,zn]) ?_
    intro m Z;by_cases F:m<e.links.length
    .have G:(m:Int)<e.links.length:=by omega
     obtain⟨y,ey⟩:∃ y,e.links[m]=y:=⟨_,rfl⟩;have ey1:e.links[m]?=some y:=by rw[List.getElem?_eq_getElem F,ey]
     simp+decide[int,zn,Ent.row,yP,Lnk.row,J,H,e1,ee,F,G,ey,ey1,I64];refine zc.pure (by rfl) (Ut l y.dst (by omega)) (by simp[int,zn]) ?_
     cases A:(zD l y.dst).2 with
     |false=>simp+decide[int]
     |true=>
      simp+decide[int,I64,zn];exact⟨⟨by omega,by omega⟩,m+1,F,by omega,by omega⟩
    .have G:¬(m:Int)<e.links.length:=by omega
     simp+decide[int,zn,G,I64];exact⟨⟨by omega,by omega⟩,i+1,J,by omega,by omega⟩
   .simp+decide[int,zn,Ent.row,yP,J,H,e1,ee,hm,I64]
    refine zc.pure (by rfl) (Ut l e.main (by omega)) (by simp[int,zn]) ?_
    cases hg:(zD l e.main).2 with
    |false=>simp+decide[int]
    |true=>
     simp+decide[int,zn,Ent.row,yP,J,H,e1,ee,hm,I64];refine zr mixed (λm:Nat=>{n:=87,next:=1,slots:=[(1,.d (zn l)),(2,.bp 0 0),(7,.d (int i)),(44,.d (int l.length)),(45,.d (int i)),(69,.d (int e.links.length)),(70,.d (int m))],own:=[(0,.box 24 [.d (zH inv)])]})
      (λm=>m<=e.links.length) (λm=>e.links.length-m) 0 (by simp) (by simp+decide[int,ints,zn]) ?_
     intro m Z;by_cases F:m<e.links.length
     .have G:(m:Int)<e.links.length:=by omega
      obtain⟨y,ey⟩:∃ y,e.links[m]=y:=⟨_,rfl⟩;have ey1:e.links[m]?=some y:=by rw[List.getElem?_eq_getElem F,ey]
      simp+decide[int,zn,Ent.row,yP,Lnk.row,J,H,e1,ee,F,G,ey,ey1,I64];refine zc.pure (by rfl) (Ut l y.dst (by omega)) (by simp[int,zn]) ?_
      cases A:(zD l y.dst).2 with
      |false=>simp+decide[int]
      |true=>
       simp+decide[int,I64,zn];exact⟨⟨by omega,by omega⟩,m+1,F,by omega,by omega⟩
     .have G:¬(m:Int)<e.links.length:=by omega
      simp+decide[int,zn,G,I64];exact⟨⟨by omega,by omega⟩,i+1,J,by omega,by omega⟩
  .have H:¬(i:Int)<l.length:=by omega
   simp+decide[int,zn,H];exact M
def Qa(k:Int):Int:=if k=0 then k else if k=1 then k else if k=2 then 3 else if k=3 then 2 else if k=4 then 5 else if k=5 then 4 else -1
theorem Bv(k:Int):zi Tryz.prog 151 [int k] (int (Qa k)):=by
 refine zp mixed Tryz.func151 rfl c_151 ?_
 unfold Qa
 by_cases H:k=0
 .simp+decide[Tryz.f151,int,H]
 by_cases G:k=1
 .simp+decide[Tryz.f151,int,H,G]
 by_cases F:k=2
 .simp+decide[Tryz.f151,int,H,G,F]
 by_cases E:k=3
 .simp+decide[Tryz.f151,int,H,G,F,E]
 by_cases K:k=4
 .simp+decide[Tryz.f151,int,H,G,F,E,K]
 by_cases J:k=5
 .simp+decide[Tryz.f151,int,H,G,F,E,K,J]
 simp+decide[Tryz.f151,int,H,G,F,E,K,J]
def Qb(e:Ent)(x:Lnk):Bool:=e.links.any λy=>decide (y=x)
theorem T8(e:Ent)(x:Lnk)(K:e.links.length<=1048576):zi Tryz.prog 153 [.agg e.row,.agg x.row] (.bool (Qb e x)):=by
 refine zp mixed Tryz.func153 rfl c_153 ?_
 simp+decide[Tryz.f153,int,Ent.row,Lnk.row]
 refine zr mixed (λk:Nat=>{n:=20,next:=2,slots:=[(2,.bp 0 0),(3,.bp 1 0),(5,.d (int k))],own:=[(0,.box 102 (e.row.map .d)),(1,.box 213 (x.row.map .d))]})
  (λk=>k<=e.links.length/\∀ y∈e.links.take k,¬y=x) (λk=>e.links.length-k) 0 (by simp) (by simp+decide[int,ints,Ent.row,Lnk.row,yP]) ?_
 intro k ⟨J,L⟩
 by_cases H:k<e.links.length
 .have G:(k:Int)<e.links.length:=by omega
  have F:=List.getElem_mem H;have hsn:=y9 H;obtain⟨y,ey⟩:∃ y,e.links[k]=y:=⟨_,rfl⟩;have e1:e.links[k]?=some y:=by rw[List.getElem?_eq_getElem H,ey]
  rw[ey] at F hsn;by_cases b1:y=x
  .have:Qb e x=true:=List.any_eq_true.2 ⟨y,F,by simpa using b1⟩
   rw[this];subst b1;simp+decide[int,ints,Ent.row,yP,Lnk.row,H,G,e1,ey]
  .simp+decide[int,ints,Ent.row,yP,Lnk.row,H,G,e1,ey,I64]
   have E:y.kind=x.kind->¬y.dst=x.dst:=by
    intro M O;obtain⟨a,b⟩:=y;obtain⟨c,d⟩:=x;simp only at M O
    exact b1 (by rw[M,O])
   refine⟨λM O=>absurd O (E M),λ_=>⟨⟨by omega,by omega⟩,k+1,⟨H,λz Q=>?_⟩,by omega,by omega⟩⟩
   rw[hsn] at Q;rcases List.mem_append.1 Q with h | h
   .exact L z h
   .rw[List.mem_singleton] at h;rw[h];exact b1
 .have:k=e.links.length:=by omega
  subst this;rw[List.take_length] at L;have:Qb e x=false:=by unfold Qb;rw[List.any_eq_false];intro y T;simpa using L y T
  rw[this];simp+decide[int,ints,Ent.row,yP]
theorem Bw(l:List Int)(x:Int)(E:l.length<2^40):zi Tryz.prog 154 [ints l,int x] (.bool (decide (x∈l))):=by
 refine zp mixed Tryz.func154 rfl c_154 ?_
 simp+decide[Tryz.f154,int,ints]
 refine zr mixed (λk:Nat=>{n:=18,next:=0,slots:=[(0,.d (ints l)),(1,.d (int x)),(5,.d (int k))],own:=[]})
  (λk=>k<=l.length/\∀ y∈l.take k,¬y=x) (λk=>l.length-k) 0 (by simp) (by simp+decide[int,ints]) ?_
 intro k ⟨K,J⟩
 by_cases H:k<l.length
 .have G:(k:Int)<l.length:=by omega
  have F:=List.getElem_mem H;have hsn:=y9 H;obtain⟨y,ey⟩:∃ y,l[k]=y:=⟨_,rfl⟩;have e1:l[k]?=some y:=by rw[List.getElem?_eq_getElem H,ey]
  rw[ey] at F hsn;by_cases b1:y=x
  .subst b1
   simp+decide[int,ints,H,G,e1,ey,F]
  .simp+decide[int,ints,H,G,e1,ey,b1,I64]
   refine⟨⟨by omega,by omega⟩,k+1,⟨H,λz L=>?_⟩,by omega,by omega⟩
   rw[hsn] at L;rcases List.mem_append.1 L with h | h
   .exact J z h
   .rw[List.mem_singleton] at h;rw[h];exact b1
 .have:k=l.length:=by omega
  subst this;rw[List.take_length] at J;have M:¬x∈l:=λh=>J x h rfl
  simp+decide[int,ints,M]
def jv(l:List Ent)(kind:Int)(s:List Bool×List Int)(x:Lnk):List Bool×List Int:=
 if x.kind=kind/\0<=yQ l x.dst/\s.1[(yQ l x.dst).toNat]?.getD true=false then (s.1.set (yQ l x.dst).toNat true,s.2++[x.dst]) else s
def jQ(l:List Ent)(kind:Int)(s:List Bool×List Int)(t:Int):List Bool×List Int:=(zD l t).1.links.foldl (jv l kind) s
def By(l:List Ent)(kind:Int)(s:List Bool×List Int):List Bool×List Int:=s.2.foldl (jQ l kind) (s.1,[])
def rN(l:List Ent)(id kind:Int):Nat->List Bool×List Int
 |0=>(List.replicate l.length false,[id])
 |n+1=>By l kind (rN l id kind n)
def uw(l:List Ent)(s:List Bool)(k:Nat):List Int:=((List.range k).filter λj=>s[j]?.getD false).map λj=>((l[j]?).map Ent.id).getD 0
def ZI(l:List Ent)(id kind:Int):List Int:=uw l (rN l id kind (l.length+1)).1 l.length
theorem T9(l:List Ent)(kind:Int)(s:List Bool×List Int)(x:Lnk):(jv l kind s x).1.length=s.1.length/\(jv l kind s x).2.length<=s.2.length+1:=by
 unfold jv;split <;> simp
theorem Uu(l:List Ent)(kind:Int):∀ (xs:List Lnk) (s:List Bool×List Int),(xs.foldl (jv l kind) s).1.length=s.1.length/\(xs.foldl (jv l kind) s).2.length<=s.2.length+xs.length
 | [],s=>⟨rfl,Nat.le_refl _⟩
 |x::xs,s=>by
  have H:=T9 l kind s x;have G:=Uu l kind xs (jv l kind s x);rw[List.foldl_cons,List.length_cons];exact⟨G.1.trans H.1,by omega⟩
theorem Bz{l:List Ent}(H:∀ e∈l,e.links.length<=12)(t:Int):(zD l t).1.links.length<=12:=by
 rcases jC l t with⟨_,G⟩ | ⟨j,hj,_,G⟩
 .rw[G];simp[Ent.zero]
 .rw[G];exact H _ (List.getElem_mem hj)
theorem Uv{l:List Ent}(H:∀ e∈l,e.links.length<=12)(kind:Int):∀ (ts:List Int) (s:List Bool×List Int),(ts.foldl (jQ l kind) s).1.length=s.1.length/\(ts.foldl (jQ l kind) s).2.length<=s.2.length+12*ts.length
 | [],s=>⟨rfl,by simp⟩
 |t::ts,s=>by
  have G:=Uu l kind (zD l t).1.links s;have F:=Bz H t;have E:=Uv H kind ts (jQ l kind s t);rw[List.foldl_cons,List.length_cons];unfold jQ at E ⊢;exact⟨E.1.trans G.1,by omega⟩
theorem BA{l:List Ent}(H:∀ e∈l,e.links.length<=12)(id kind:Int):∀ n,(rN l id kind n).1.length=l.length/\(rN l id kind n).2.length<=12^n
 |0=>by simp[rN]
 |n+1=>by
  have h:=BA H id kind n;have G:=Uv H kind (rN l id kind n).2 ((rN l id kind n).1,[]);unfold rN By;simp only[List.length_nil,Nat.zero_add] at G;refine⟨G.1.trans h.1,Nat.le_trans G.2 ?_⟩
  rw[Nat.pow_succ];omega
theorem Ta(l:List Ent)(s:List Bool)(k:Nat):uw l s (k+1)=uw l s k++(if s[k]?.getD false=true then [((l[k]?).map Ent.id).getD 0] else []):=by
 unfold uw
 rw[List.range_succ,List.filter_append,List.map_append]
 congr 1
 by_cases h:s[k]?.getD false=true
 .simp[h]
 .simp[h]
theorem BB(l:List Ent)(s:List Bool)(k:Nat):(uw l s k).length<=k:=by
 unfold uw
 rw[List.length_map]
 have:=List.length_filter_le (λj=>s[j]?.getD false) (List.range k)
 simpa using this
def rB(l:List Bool):List (List D):=l.map λb=>[.bool b]
def rI(l:List Int):List (List D):=l.map λn=>[int n]
def rH(l:List Ent)(id kind:Int)(i:Nat):St:=
 {n:=110,next:=3,slots:=[(0,.d (zn l)),(1,.d (int id)),(2,.d (int kind)),(7,.ar 1),(8,.d (ints (rN l id kind i).2)),(9,.d (int i))],own:=[(1,.arr 4 1 (rB (rN l id kind i).1))],moved:=[3]}
def rM(l:List Ent)(id kind:Int)(i:Nat)(todo:List Int)(s:List Bool×List Int):St:=
 {n:=110,next:=4,slots:=[(0,.d (zn l)),(1,.d (int id)),(2,.d (int kind)),(7,.ar 1),(8,.d (ints todo)),(9,.d (int i)),(10,.ar 3)],own:=[(1,.arr 4 1 (rB s.1)),(3,.arr 3 1 (rI s.2))],moved:=[3]}
def J0(l:List Ent)(id kind:Int)(i:Nat)(todo:List Int)(j:Nat)(s:List Bool×List Int):St:=
 {n:=110,next:=4,slots:=[(0,.d (zn l)),(1,.d (int id)),(2,.d (int kind)),(7,.ar 1),(8,.d (ints todo)),(9,.d (int i)),(10,.ar 3),(11,.d (int j))],own:=[(1,.arr 4 1 (rB s.1)),(3,.arr 3 1 (rI s.2))],moved:=[3]}
def rL(l:List Ent)(id kind:Int)(i:Nat)(todo:List Int)(j:Nat)(f:Int)(m:Nat)(s:List Bool×List Int):St:=
 {n:=110,next:=4,slots:=[(0,.d (zn l)),(1,.d (int id)),(2,.d (int kind)),(7,.ar 1),(8,.d (ints todo)),(9,.d (int i)),(10,.ar 3),(11,.d (int j)),(12,.d (int f)),(13,.d (int m))],own:=[(1,.arr 4 1 (rB s.1)),(3,.arr 3 1 (rI s.2))],moved:=[3]}
theorem BD(l:List Ent)(id kind:Int)(hl:l.length<=5)(hk:∀ e∈l,e.links.length<=12):zi Tryz.prog 155 [zn l,int id,int kind] (ints (ZI l id kind)):=by
 refine zp mixed Tryz.func155 rfl c_155 ?_
 simp+decide[Tryz.f155,int,zn]
 refine⟨by omega,by unfold maxLen;omega,?_⟩
 refine uS [2] ?_
 refine yg mixed (rH l id kind) (λi=>i<=l.length+1) (λi=>l.length+1-i) 0 (by simp) (by simp+decide[rH,rN,int,ints,zn,rB]) ?_
 intro i hi
 obtain⟨n1,n2⟩:=BA hk id kind i
 have N:12^i<=12^6:=Nat.pow_le_pow_right (by omega) (by omega)
 by_cases W:i<l.length+1
 .have Q:(i:Int)<=l.length:=by omega
  refine wh mixed 1 (rH l id kind i) rfl (by simp+decide[rH,yq,xW,int,zn,Q]) ?_
  simp only[yO];refine Y9 (Xt (wh mixed 2 (rM l id kind i (rN l id kind i).2 (rN l id kind (i+1))) rfl ?_ ?_)) mixed
  .unfold rH
   have n3:(rN l id kind i).2.length<=2985984:=Nat.le_trans n2 (Nat.le_trans N (by decide))
   have G:rN l id kind (i+1)=(rN l id kind i).2.foldl (jQ l kind) ((rN l id kind i).1,[]):=rfl
   generalize rN l id kind (i+1)=nx at G;generalize rN l id kind i=cur at G n1 n2 n3 ⊢;obtain⟨seen,todo⟩:=cur;simp only at G n1 n2 n3
   simp+decide[rH,yq,int,zn];have A:(seen,[])=(([]:List Int).foldl (jQ l kind) (seen,[])):=rfl
   refine zr mixed (λj:Nat=>J0 l id kind i todo j ((todo.take j).foldl (jQ l kind) (seen,[]))) (λj=>j<=todo.length) (λj=>todo.length-j) 0 (by simp) (by simp+decide[J0,int,ints,zn,rB,rI]) ?_
   intro j hj;obtain⟨m1,m2⟩:=Uv hk kind (todo.take j) (seen,[]);rw[List.length_take] at m2;simp only[List.length_nil,Nat.zero_add] at m1 m2;by_cases K:j<todo.length
   case neg=>
    have:j=todo.length:=by omega
    subst this;rw[List.take_length,<-G];simp+decide[J0,rM,int,ints,zn,xW];done
   have T:(j:Int)<todo.length:=by omega
   have hsn:(todo.take (j+1)).foldl (jQ l kind) (seen,[])=jQ l kind ((todo.take j).foldl (jQ l kind) (seen,[])) todo[j]:=by rw[y9 K,List.foldl_append];rfl
   obtain⟨t,et⟩:∃ t,todo[j]=t:=⟨_,rfl⟩;have et1:todo[j]?=some t:=by rw[List.getElem?_eq_getElem K,et]
   rw[et] at hsn;generalize (todo.take j).foldl (jQ l kind) (seen,[])=s0 at hsn m1 m2;have hF:=WY l t (by omega)
   have F:=Bz hk t;have V:jQ l kind s0 t=(zD l t).1.links.foldl (jv l kind) s0:=rfl
   rw[V] at hsn;simp+decide[J0,int,ints,zn,K,T,et,et1];refine zc.pure (by rfl) hF (by simp[int,zn]) ?_
   simp+decide[int,ints,zn];refine zr mixed (λm:Nat=>rL l id kind i todo j (yQ l t) m (((zD l t).1.links.take m).foldl (jv l kind) s0)) (λm=>m<=(zD l t).1.links.length) (λm=>(zD l t).1.links.length-m) 0 (by simp) (by simp+decide[rL,int,ints,zn,rB,rI]) ?_
   intro m hm;rcases jC l t with⟨f1,f2⟩ | ⟨q,hq,f1,f2⟩
   .have hz:(zD l t).1.links=[]:=by rw[f2];rfl
    rw[hz] at hm hsn ⊢;have P:m=0:=by simpa using hm
    subst P;have S:¬0<=yQ l t:=by omega
    simp only[List.take_zero,List.foldl_nil] at hsn ⊢;simp+decide[rL,int,ints,zn,S,I64];exact⟨⟨by omega,by omega⟩,j+1,K,by omega,by omega,by rw[hsn],by rw[hsn]⟩
   .rw[f2] at hm hsn F ⊢
    simp only at hm hsn F ⊢
    rw[f1];obtain⟨e,ee⟩:∃ e,l[q]=e:=⟨_,rfl⟩;have eq1:l[q]?=some e:=by rw[List.getElem?_eq_getElem hq,ee]
    have B:(q:Int)<l.length:=by omega
    rw[ee] at hm hsn F ⊢;by_cases E:m<e.links.length
    case neg=>
     have:m=e.links.length:=by omega
     subst this;rw[List.take_length,<-hsn];simp+decide[rL,int,ints,zn,hq,B,ee,eq1,Ent.row,yP,I64];exact⟨⟨by omega,by omega⟩,j+1,K,by omega,by omega,rfl,rfl⟩
    have X:(m:Int)<e.links.length:=by omega
    obtain⟨p1,p2⟩:=Uu l kind (e.links.take m) s0;rw[List.length_take] at p2;have H:(e.links.take (m+1)).foldl (jv l kind) s0=jv l kind ((e.links.take m).foldl (jv l kind) s0) e.links[m]:=by rw[y9 E,List.foldl_append];rfl
    obtain⟨x,ex⟩:∃ x,e.links[m]=x:=⟨_,rfl⟩;have ex1:e.links[m]?=some x:=by rw[List.getElem?_eq_getElem E,ex]
    rw[ex] at H;generalize (e.links.take m).foldl (jv l kind) s0=s1 at H p1 p2;have hG:=WY l x.dst (by omega)
    have J:jv l kind s1 x=if x.kind=kind/\0<=yQ l x.dst/\s1.1[(yQ l x.dst).toNat]?.getD true=false then (s1.1.set (yQ l x.dst).toNat true,s1.2++[x.dst]) else s1:=rfl
    rw[J] at H;simp+decide[rL,int,ints,zn,hq,B,ee,eq1,Ent.row,yP,Lnk.row,I64,E,X,ex,ex1];refine zc.pure (by rfl) hG (by simp[int,zn]) ?_
    by_cases k1:x.kind=kind
    case neg=>
     rw[if_neg (λh=>k1 h.1)] at H
     simp+decide[int,k1,I64];exact⟨⟨by omega,by omega⟩,m+1,E,by omega,by omega,by rw[H],by rw[H]⟩
    rcases jC l x.dst with⟨g1,g2⟩ | ⟨u,hu,g1,g2⟩
    .have C:¬0<=yQ l x.dst:=by omega
     rw[if_neg (λh=>C h.2.1)] at H
     simp+decide[int,k1,C,I64];exact⟨⟨by omega,by omega⟩,m+1,E,by omega,by omega,by rw[H],by rw[H]⟩
    .have Y:u<s1.1.length:=by omega
     obtain⟨b,eb⟩:∃ b,s1.1[u]=b:=⟨_,rfl⟩;have eb1:s1.1[u]?=some b:=by rw[List.getElem?_eq_getElem Y,eb]
     rw[g1] at H;simp only[Int.toNat_natCast,eb1,Option.getD_some] at H;have I:(u:Int)<s1.1.length:=by omega
     cases b with
     |true=>
      rw[if_neg (λh=>by cases h.2.2)] at H
      simp+decide[int,k1,g1,rB,Y,I,eb,eb1,I64];exact⟨⟨by omega,by omega⟩,m+1,E,by omega,by omega,by rw[H],by rw[H]⟩
     |false=>
      rw[if_pos ⟨k1,by omega,rfl⟩] at H
      simp+decide[int,k1,g1,rB,rI,Y,I,eb,eb1,I64];exact⟨by omega,by unfold maxLen;omega,⟨by omega,by omega⟩,m+1,E,by omega,by omega,by rw[H];simp[List.map_set],by rw[H];simp⟩
  .simp only[yO]
   refine uS [3] ?_
   refine zM mixed ?_
   simp+decide[rM,int,zn];exact⟨⟨by omega,by omega⟩,i+1,by omega,by omega,by simp+decide[rH,int,ints,zn,rB,rI]⟩
 .have:i=l.length+1:=by omega
  subst this;refine zM mixed ?_
  have hn:¬(l.length:Int)+1<=l.length:=by omega
  simp+decide[rH,int,zn,hn];have L:ZI l id kind=uw l (rN l id kind (l.length+1)).1 l.length:=rfl
  generalize (rN l id kind (l.length+1)).1=seen at L n1 ⊢;refine zr mixed (λk:Nat=>{n:=110,next:=4,slots:=[(0,.d (zn l)),(7,.ar 1),(16,.ar 3),(17,.d (int k))],own:=[(1,.arr 4 1 (rB seen)),(3,.arr 3 1 (rI (uw l seen k)))],moved:=[3]}) (λk=>k<=l.length) (λk=>l.length-k) 0 (by simp) (by simp+decide[int,ints,zn,rB,rI,uw]) ?_
  intro k H0;have H1:=BB l seen k;by_cases F:k<l.length
  .have M:(k:Int)<l.length:=by omega
   have Z:k<seen.length:=by omega
   have O:(k:Int)<seen.length:=by omega
   have hsn:=Ta l seen k;obtain⟨e,ee⟩:∃ e,l[k]=e:=⟨_,rfl⟩;have e1:l[k]?=some e:=by rw[List.getElem?_eq_getElem F,ee]
   obtain⟨b,eb⟩:∃ b,seen[k]=b:=⟨_,rfl⟩;have eb1:seen[k]?=some b:=by rw[List.getElem?_eq_getElem Z,eb]
   rw[e1,eb1] at hsn;cases b with
   |false=>
    simp only[Option.getD_some,Bool.false_eq_true,if_false,List.append_nil] at hsn;simp+decide[int,ints,zn,rB,F,M,Z,O,ee,e1,eb,eb1,I64];exact⟨⟨by omega,by omega⟩,k+1,F,by omega,by omega,by rw[hsn]⟩
   |true=>
    simp only[Option.getD_some,if_true,Option.map_some] at hsn;simp+decide[int,ints,zn,rB,rI,Ent.row,F,M,Z,O,ee,e1,eb,eb1,I64];exact⟨by omega,by unfold maxLen;omega,⟨by omega,by omega⟩,k+1,F,by omega,by omega,by rw[hsn];simp⟩
  .have:k=l.length:=by omega
   subst this;rw[L];simp+decide[int,ints,zn,rI]
theorem BE(l:List Ent)(id kind:Int):(ZI l id kind).length<=l.length:=BB _ _ _
theorem Tb(l:List Ent)(T:l.length<=5)(V:∀ e∈l,e.links.length<=12):xT Tryz.prog 91 [zn l] VC:=by
 refine qy mixed Tryz.func91 rfl c_91 ?_
 simp+decide[Tryz.f91,int,zn]
 refine zr mixed (λi:Nat=>{n:=91,next:=0,slots:=[(0,.d (zn l)),(3,.d (int i))],own:=[]}) (λi=>i<=l.length) (λi=>l.length-i) 0 (by simp) (by simp+decide[int,zn]) ?_
 intro i hi
 by_cases F:i<l.length
 .have H:(i:Int)<l.length:=by omega
  have M:=V l[i] (List.getElem_mem F);obtain⟨e,ee⟩:∃ e,l[i]=e:=⟨_,rfl⟩;have e1:l[i]?=some e:=by rw[List.getElem?_eq_getElem F,ee]
  rw[ee] at M;simp+decide[int,zn,H];refine zr mixed (λk:Nat=>{n:=91,next:=0,slots:=[(0,.d (zn l)),(3,.d (int i)),(4,.d (int k))],own:=[]}) (λk=>k<=e.links.length) (λk=>e.links.length-k) 0 (by simp) (by simp+decide[int,zn]) ?_
  intro k Q;by_cases J:k<e.links.length
  .have E:(k:Int)<e.links.length:=by omega
   obtain⟨x,ex⟩:∃ x,e.links[k]=x:=⟨_,rfl⟩;have ex1:e.links[k]?=some x:=by rw[List.getElem?_eq_getElem J,ex]
   simp+decide[int,zn,Ent.row,yP,Lnk.row,F,H,ee,e1,J,E,ex,ex1];refine zc.pure (by rfl) (Bv x.kind) (by simp[int]) ?_
   by_cases c1:Qa x.kind<0
   .simp+decide[int,c1]
   simp+decide[int,zn,c1];refine zc.pure (by rfl) (WY l x.dst (by omega)) (by simp[int,zn]) ?_
   rcases jC l x.dst with⟨g1,g2⟩ | ⟨u,X,g1,g2⟩
   .simp+decide[int,g1]
   .have L:(u:Int)<l.length:=by omega
    have O:=V l[u] (List.getElem_mem X);obtain⟨y,ey⟩:∃ y,l[u]=y:=⟨_,rfl⟩;have ey1:l[u]?=some y:=by rw[List.getElem?_eq_getElem X,ey]
    rw[ey] at O;have Y:=T8 y ⟨Qa x.kind,e.id⟩ (by omega)
    rw[g1];simp+decide[int,zn,Ent.row,yP,Lnk.row,F,H,ee,e1,X,L,ey,ey1];refine zq (by rfl) (by rfl) (Bv x.kind) (by simp[int]) ?_
    simp+decide[int,zn,Ent.row,yP,Lnk.row,F,H,ee,e1,X,L,ey,ey1];refine zq (by rfl) (by rfl) Y (by simp[int,Ent.row,Lnk.row]) ?_
    cases Z:Qb y ⟨Qa x.kind,e.id⟩ with
    |false=>simp+decide[int]
    |true=>
     simp+decide[int,I64,zn];exact⟨⟨by omega,by omega⟩,k+1,J,by omega,by omega⟩
  .have E:¬(k:Int)<e.links.length:=by omega
   simp+decide[int,zn,Ent.row,yP,F,H,ee,e1,E,I64];exact⟨⟨by omega,by omega⟩,i+1,F,by omega,by omega⟩
 .have H:¬(i:Int)<l.length:=by omega
  simp+decide[int,zn,H];refine zr mixed (λi:Nat=>{n:=91,next:=0,slots:=[(0,.d (zn l)),(7,.d (int i))],own:=[]}) (λi=>i<=l.length) (λi=>l.length-i) 0 (by simp) (by simp+decide[int,zn]) ?_
  intro j hj;by_cases K:j<l.length
  .have G:(j:Int)<l.length:=by omega
   obtain⟨e,ee⟩:∃ e,l[j]=e:=⟨_,rfl⟩;have e1:l[j]?=some e:=by rw[List.getElem?_eq_getElem K,ee]
   have r2:=BE l e.id 2;have r4:=BE l e.id 4;simp+decide[int,zn,Ent.row,K,G,ee,e1];refine zq (by rfl) (by rfl) (BD l e.id 2 T V) (by simp[int,zn]) ?_
   simp+decide[int,ints,zn,Ent.row,K,G,ee,e1];refine zq (by rfl) (by rfl) (Bw (ZI l e.id 2) e.id (by omega)) (by simp[int,ints]) ?_
   by_cases m2:e.id∈ZI l e.id 2
   .simp+decide[int,m2]
   simp+decide[int,zn,Ent.row,K,G,ee,e1,m2];refine zq (by rfl) (by rfl) (BD l e.id 4 T V) (by simp[int,zn]) ?_
   simp+decide[int,ints,zn,Ent.row,K,G,ee,e1,m2];refine zq (by rfl) (by rfl) (Bw (ZI l e.id 4) e.id (by omega)) (by simp[int,ints]) ?_
   by_cases m4:e.id∈ZI l e.id 4
   .simp+decide[int,m2,m4]
   .simp+decide[int,m2,m4,I64,zn]
    exact⟨⟨by omega,by omega⟩,j+1,K,by omega,by omega⟩
  .have G:¬(j:Int)<l.length:=by omega
   simp+decide[int,zn,G]
structure MainF(l:List Ent):Prop where
 main:∀ e∈l,e.main≠0->0<=yQ l e.main
 ends:∀ e∈l,(xu l (l.length+1) e.id).length<=l.length
theorem Tc(l:List Ent)(J:l.length<=1048576):xT Tryz.prog 92 [zn l] (λx=>∃ n,x=int n/\(n=0->MainF l)):=by
 refine qy mixed Tryz.func92 rfl c_92 ?_
 simp+decide[Tryz.f92,int,zn]
 refine zr mixed (λi:Nat=>{n:=44,next:=0,slots:=[(0,.d (zn l)),(3,.d (int i))],own:=[]}) (λi=>i<=l.length/\∀ e∈l.take i,e.main≠0->0<=yQ l e.main) (λi=>l.length-i) 0 (by simp) (by simp+decide[int,zn]) ?_
 intro i ⟨hi,L⟩
 by_cases H:i<l.length
 .have G:(i:Int)<l.length:=by omega
  obtain⟨e,ee⟩:∃ e,l[i]=e:=⟨_,rfl⟩;have e1:l[i]?=some e:=by rw[List.getElem?_eq_getElem H,ee]
  have hsn:=y9 H;rw[ee] at hsn;have K:(e.main≠0->0<=yQ l e.main)->∀ x∈l.take (i+1),x.main≠0->0<=yQ l x.main:=by
   intro h x M;rw[hsn] at M;rcases List.mem_append.1 M with O | O
   .exact L x O
   .rw[List.mem_singleton] at O;rw[O];exact h
  by_cases Q:e.main=0
  .have T:=K (λh=>absurd Q h)
   simp+decide[int,zn,Ent.row,H,G,ee,e1,Q,I64];exact⟨⟨by omega,by omega⟩,i+1,⟨H,T⟩,by omega,by omega⟩
  .simp+decide[int,zn,Ent.row,H,G,ee,e1,Q,I64]
   refine zc.pure (by rfl) (Vq l e.main (by omega)) (by simp[int,zn]) ?_
   by_cases c1:yQ l e.main<0
   .simp+decide[int,c1]
   .have T:=K (λ_=>by omega)
    simp+decide[int,c1,I64,zn];exact⟨⟨by omega,by omega⟩,i+1,⟨H,T⟩,by omega,by omega⟩
 .have:i=l.length:=by omega
  subst this;rw[List.take_length] at L;simp+decide[int,zn];refine zr mixed (λi:Nat=>{n:=44,next:=0,slots:=[(0,.d (zn l)),(4,.d (int i))],own:=[]}) (λi=>i<=l.length/\∀ e∈l.take i,(xu l (l.length+1) e.id).length<=l.length) (λi=>l.length-i) 0 (by simp) (by simp+decide[int,zn]) ?_
  intro j ⟨hj,V⟩;by_cases F:j<l.length
  .have E:(j:Int)<l.length:=by omega
   obtain⟨e,ee⟩:∃ e,l[j]=e:=⟨_,rfl⟩;have e1:l[j]?=some e:=by rw[List.getElem?_eq_getElem F,ee]
   have hsn:=y9 F;rw[ee] at hsn;simp+decide[int,zn,Ent.row,F,E,ee,e1,I64];refine zc.pure (by rfl) (Dk l e.id (by omega)) (by simp[int,zn]) ?_
   by_cases c1:l.length<(xu l (l.length+1) e.id).length
   .have c1':(l.length:Int)<(xu l (l.length+1) e.id).length:=by omega
    simp+decide[int,ints,zn,c1,c1']
   .have c1':¬(l.length:Int)<(xu l (l.length+1) e.id).length:=by omega
    simp+decide[int,ints,zn,c1,c1',I64];refine⟨⟨by omega,by omega⟩,j+1,⟨F,λx M=>?_⟩,by omega,by omega⟩
    rw[hsn] at M;rcases List.mem_append.1 M with O | O
    .exact V x O
    .rw[List.mem_singleton] at O;rw[O];omega
  .have:j=l.length:=by omega
   subst this;rw[List.take_length] at V;simp+decide[int,zn];exact⟨L,V⟩
theorem BF{s:ByteArray}(h:xY s=true):0<s.size/\s.size<=32:=by
 unfold xY at h
 simp only[Bool.and_eq_true,decide_eq_true_eq] at h
 omega
structure UnitF(u:Grap):Prop where
 pos:0<u.graph.size
 size:u.graph.size<=32
 segs:1<=u.segs.length
 few:u.segs.length<=3
 lab:xY u.graph=true
theorem Td(s:ByteArray)(hs:s.size<=1048576):xT Tryz.prog 145 [.str s] (λx=>∃ b,x = .bool b/\(b=true->xY s=true)):=by
 refine qy mixed Tryz.func145 rfl c_145 ?_
 simp+decide[Tryz.f145,int]
 refine zr mixed (λk:Nat=>{n:=16,next:=0,slots:=[(0,.d (.str s)),(3,.d (int k))],own:=[]})
  (λk=>k<=s.size) (λk=>s.size-k) 0 (by simp) (by simp+decide[int]) ?_
 intro k F
 by_cases G:k<s.size
 .have H:(k:Int)<s.size:=by omega
  have e1:byteAt s (k:Int)=(zE s k:Int):=gi s k
  by_cases b1:(zE s k:Int)=32
  .simp+decide[int,G,H,e1,b1]
  .simp+decide[int,G,H,e1,b1,I64]
   exact⟨⟨by omega,by omega⟩,k+1,G,by omega,by omega⟩
 .have H:¬(k:Int)<s.size:=by omega
  simp+decide[int,H];refine zc.pure (by rfl) (C4 s hs) (by simp) ?_
  simp+decide[int]
theorem Te(inv:List Phon)(o:Orth)(Q:OrthC o)(i:Nat)(hi:i<o.units.length)(T:inv.length<2^40):xT Tryz.prog 144 [.agg [zH inv],.agg o.cells,int i] (λx=>∃ n,x=int n/\(n=0->∀ u,o.units[i]?=some u->UnitF u)):=by
 refine qy mixed Tryz.func144 rfl c_144 ?_
 have M:(i:Int)<o.units.length:=by omega
 have V:=Q.units o.units[i] (List.getElem_mem hi)
 have O:=Q.few.1
 obtain⟨u,eu⟩:∃ u,o.units[i]=u:=⟨_,rfl⟩
 have eu1:o.units[i]?=some u:=by rw[List.getElem?_eq_getElem hi,eu]
 rw[eu] at V
 rw[eu1]
 simp+decide[Tryz.f144,int,Orth.cells,zI,hi,M,eu,eu1,Grap.row]
 refine zc.some (by rfl) (Td u.graph V.1) ?_
 rintro r ⟨b,rfl,G⟩
 cases b with
 |false=>simp+decide[int]
 |true=>
  have G:=G rfl;simp+decide[int];refine zr mixed (λk:Nat=>{n:=67,next:=3,slots:=[(2,.d (int i)),(3,.bp 0 0),(4,.bp 1 0),(7,.bp 2 0),(8,.d (int k))],own:=[(0,.box 24 [.d (zH inv)]),(1,.box 28 (o.cells.map .d)),(2,.box 143 [.d (.str u.graph),.d (ints u.segs)])]})
   (λk=>k<=i) (λk=>i-k) 0 (by simp) (by simp+decide[int,ints,Orth.cells,zI,Grap.row]) ?_
  intro k X;by_cases E:k<i
  .have H:(k:Int)<i:=by omega
   have L:k<o.units.length:=by omega
   have K:(k:Int)<o.units.length:=by omega
   obtain⟨x,ex⟩:∃ x,o.units[k]=x:=⟨_,rfl⟩;have ex1:o.units[k]?=some x:=by rw[List.getElem?_eq_getElem L,ex]
   by_cases b1:x.graph=u.graph
   .simp+decide[int,ints,Orth.cells,zI,Grap.row,E,H,L,K,ex,ex1,b1]
   .simp+decide[int,ints,Orth.cells,zI,Grap.row,E,H,L,K,ex,ex1,b1,I64]
    first | exact λ_=>⟨⟨by omega,by omega⟩,k+1,E,by omega,by omega⟩ | exact⟨⟨by omega,by omega⟩,k+1,E,by omega,by omega⟩
  .have H:¬(k:Int)<i:=by omega
   by_cases c1:(u.segs.length:Int)<1
   .simp+decide[int,ints,Orth.cells,zI,Grap.row,E,H,c1]
   .by_cases c2:(3:Int)<u.segs.length
    .simp+decide[int,ints,Orth.cells,zI,Grap.row,E,H,c1,c2]
    .simp+decide[int,ints,Orth.cells,zI,Grap.row,E,H,c1,c2]
     refine zr mixed (λm:Nat=>{n:=67,next:=3,slots:=[(2,.d (int i)),(3,.bp 0 0),(4,.bp 1 0),(7,.bp 2 0),(9,.d (int m))],own:=[(0,.box 24 [.d (zH inv)]),(1,.box 28 (o.cells.map .d)),(2,.box 143 [.d (.str u.graph),.d (ints u.segs)])]})
      (λm=>m<=u.segs.length) (λm=>u.segs.length-m) 0 (by simp) (by simp+decide[int,ints,Orth.cells,zI,Grap.row]) ?_
     intro m Y;by_cases J:m<u.segs.length
     .have F:(m:Int)<u.segs.length:=by omega
      obtain⟨y,ey⟩:∃ y,u.segs[m]=y:=⟨_,rfl⟩;have ey1:u.segs[m]?=some y:=by rw[List.getElem?_eq_getElem J,ey]
      by_cases b1:y<1
      .simp+decide[int,ints,J,F,ey,ey1,b1]
      .by_cases b2:(inv.length:Int)<y
       .simp+decide[int,ints,zH,J,F,ey,ey1,b1,b2]
       .simp+decide[int,ints,zH,J,F,ey,ey1,b1,b2,I64]
        exact⟨⟨by omega,by omega⟩,m+1,J,by omega,by omega,by simp[Orth.cells,Sym.los,Sym.lo]⟩
     .have F:¬(m:Int)<u.segs.length:=by omega
      simp+decide[int,ints,F];exact⟨(BF G).1,(BF G).2,by omega,by omega,G⟩
theorem Tf(inv:List Phon)(o:Orth)(Y:OrthC o)(Z:inv.length<2^40):xT Tryz.prog 87 [.agg [zH inv],.agg o.cells] (λx=>∃ n,x=int n/\(n=0->∀ u∈o.units,UnitF u)):=by
 have Q:=Y.few
 refine qy mixed Tryz.func87 rfl c_87 ?_
 simp+decide[Tryz.f87,int,Orth.cells]
 refine zc.pure (by rfl) (DJ o.name (by have:=Y.name;omega)) (by simp) ?_
 cases X:nameP o.name with
 |false=>simp+decide[int]
 |true=>
  by_cases A:(100:Int)<o.units.length
  .simp+decide[int,zI,A]
  simp+decide[int,zI,A];refine zr mixed (λk:Nat=>{n:=79,next:=2,slots:=[(2,.bp 0 0),(3,.bp 1 0),(5,.d (int k))],own:=[(0,.box 24 [.d (zH inv)]),(1,.box 28 (o.cells.map .d))]})
   (λk=>k<=o.units.length/\∀ u∈o.units.take k,UnitF u) (λk=>o.units.length-k) 0 (by simp) (by simp+decide[int,zI,Orth.cells]) ?_
  intro k ⟨B,M⟩;by_cases K:k<o.units.length
  .have G:(k:Int)<o.units.length:=by omega
   simp+decide[int,zI,K,G,Orth.cells];refine zc.some (by rfl) (Te inv o Y k K Z) ?_
   rintro r ⟨e,rfl,O⟩
   by_cases C:e=0
   .subst C
    simp+decide[int,I64];exact⟨⟨by omega,by omega⟩,k+1,⟨K,λu I=>by
     rw[y9 K] at I;rcases List.mem_append.1 I with h | h
     .exact M u h
     .rw[List.mem_singleton] at h
      exact O rfl u (by rw[List.getElem?_eq_getElem K,h])⟩,by omega,by simp[Orth.cells,Sym.los,Sym.lo,zI]⟩
   .simp+decide[int,C]
  .have G:¬(k:Int)<o.units.length:=by omega
   have:k=o.units.length:=by omega
   subst this;rw[List.take_length] at M;by_cases N:(100:Int)<o.letters.length
   .simp+decide[int,zI,jq,G,N,Orth.cells]
   simp+decide[int,zI,jq,G,N,Orth.cells];refine zr mixed (λx:Nat×List ByteArray=>{n:=79,next:=3,slots:=[(2,.bp 0 0),(3,.bp 1 0),(7,.ar 2),(8,.d (int x.1))],own:=[(0,.box 24 [.d (zH inv)]),(1,.box 28 (o.cells.map .d)),(2,.arr 9 1 (x.2.map λs=>[.str s]))],moved:=[2]})
    (λx=>x.1<=o.letters.length/\x.2.length<=x.1*1048576) (λx=>o.letters.length-x.1) (0,[]) (by simp) (by simp+decide[int,zI,jq,Orth.cells]) ?_
   rintro⟨i,seen⟩ ⟨hi,hs⟩
   simp only at hi hs
   by_cases F:i<o.letters.length
   .have H:(i:Int)<o.letters.length:=by omega
    have P:=Y.letters o.letters[i] (List.getElem_mem F);obtain⟨L,eL⟩:∃ L,o.letters[i]=L:=⟨_,rfl⟩;have eL1:o.letters[i]?=some L:=by rw[List.getElem?_eq_getElem F,eL]
    rw[eL] at P;by_cases S:L.length=0
    .simp+decide[int,zI,jq,Orth.cells,F,H,eL,eL1,S]
    have T:¬(L.length:Int)=0:=by omega
    simp+decide[int,zI,jq,Orth.cells,F,H,eL,eL1,S,T];refine zr mixed (λx:Nat×List ByteArray=>{n:=79,next:=3,slots:=[(2,.bp 0 0),(3,.bp 1 0),(7,.ar 2),(8,.d (int i)),(9,.d (int x.1))],own:=[(0,.box 24 [.d (zH inv)]),(1,.box 28 (o.cells.map .d)),(2,.arr 9 1 (x.2.map λs=>[.str s]))],moved:=[2]})
     (λx=>x.1<=L.length/\x.2.length<=i*1048576+x.1) (λx=>L.length-x.1) (0,seen) (by simpa using hs) (by simp+decide[int,zI,jq,Orth.cells]) ?_
    rintro⟨m,sn⟩ ⟨W,V⟩
    simp only at W V
    by_cases J:m<L.length
    .have E:(m:Int)<L.length:=by omega
     have hS:=P.2 L[m] (List.getElem_mem J);obtain⟨y,ey⟩:∃ y,L[m]=y:=⟨_,rfl⟩;have ey1:L[m]?=some y:=by rw[List.getElem?_eq_getElem J,ey]
     rw[ey] at hS;simp+decide[int,zI,jq,Orth.cells,F,H,eL,eL1,J,E,ey,ey1];refine zc.some (by rfl) (OR y hS) ?_
     rintro r ⟨b,rfl⟩
     cases b with
     |false=>simp+decide[int]
     |true=>
      simp+decide[int];refine zc.some (by rfl) (OT sn y (by omega)) ?_
      rintro r ⟨b,rfl⟩
      cases b with
      |true=>simp+decide[int]
      |false=>
       simp+decide[int,I64];exact⟨by omega,by unfold maxLen;omega,⟨by omega,by omega⟩,m+1,sn++[y],⟨J,by rw[List.length_append];simp;omega⟩,by omega,by omega,by simp⟩
    .have E:¬(m:Int)<L.length:=by omega
     simp+decide[int,zI,jq,Orth.cells,F,H,eL,eL1,E,I64];exact⟨⟨by omega,by omega⟩,i+1,sn,⟨F,by omega⟩,by omega,by omega,rfl⟩
   .have H:¬(i:Int)<o.letters.length:=by omega
    simp+decide[int,zI,jq,H,Orth.cells];exact M
structure SmallL(l:List Ent):Prop where
 few:l.length<=5
 forms:∀ e∈l,e.form.length<=3/\e.alts.length<=1/\∀ w∈e.alts,w.length<=3
theorem Tg(l:List Ent)(J:l.length<=1048576):xT Tryz.prog 38 [zn l] (λx=>∃ b,x = .bool b/\(b=true->SmallL l)):=by
 refine qy mixed Tryz.func38 rfl c_38 ?_
 by_cases L:(5:Int)<l.length
 .simp+decide[Tryz.f38,int,zn,L]
 simp+decide[Tryz.f38,int,zn,L]
 refine zr mixed (λi:Nat=>{n:=50,next:=0,slots:=[(0,.d (zn l)),(3,.d (int i))],own:=[]}) (λi=>i<=l.length/\∀ e∈l.take i,e.form.length<=3/\e.alts.length<=1/\∀ w∈e.alts,w.length<=3) (λi=>l.length-i) 0 (by simp) (by simp+decide[int,zn]) ?_
 intro i ⟨hi,M⟩
 by_cases G:i<l.length
 .have H:(i:Int)<l.length:=by omega
  obtain⟨e,ee⟩:∃ e,l[i]=e:=⟨_,rfl⟩;have e1:l[i]?=some e:=by rw[List.getElem?_eq_getElem G,ee]
  have hsn:=y9 G;rw[ee] at hsn;by_cases c1:(3:Int)<e.form.length
  .simp+decide[int,ints,zn,Ent.row,G,H,ee,e1,c1]
  by_cases c2:(1:Int)<e.alts.length
  .simp+decide[int,ints,zn,yc,Ent.row,G,H,ee,e1,c1,c2]
  simp+decide[int,ints,zn,yc,Ent.row,G,H,ee,e1,c1,c2];refine zr mixed (λk:Nat=>{n:=50,next:=0,slots:=[(0,.d (zn l)),(3,.d (int i)),(4,.d (int k))],own:=[]}) (λk=>k<=e.alts.length/\∀ w∈e.alts.take k,w.length<=3) (λk=>e.alts.length-k) 0 (by simp) (by simp+decide[int,zn]) ?_
  intro k ⟨O,Q⟩;by_cases F:k<e.alts.length
  .have E:(k:Int)<e.alts.length:=by omega
   obtain⟨w,ew⟩:∃ w,e.alts[k]=w:=⟨_,rfl⟩;have ew1:e.alts[k]?=some w:=by rw[List.getElem?_eq_getElem F,ew]
   have K:=y9 F;rw[ew] at K;by_cases c3:(3:Int)<w.length
   .simp+decide[int,ints,zn,yc,Ent.row,G,H,ee,e1,F,E,ew,ew1,c3]
   .simp+decide[int,ints,zn,yc,Ent.row,G,H,ee,e1,F,E,ew,ew1,c3,I64]
    refine⟨⟨by omega,by omega⟩,k+1,⟨F,λx T=>?_⟩,by omega,by omega⟩
    rw[K] at T;rcases List.mem_append.1 T with V | V
    .exact Q x V
    .rw[List.mem_singleton] at V;rw[V];omega
  .have:k=e.alts.length:=by omega
   subst this;rw[List.take_length] at Q;simp+decide[int,ints,zn,yc,Ent.row,G,H,ee,e1,I64];refine⟨⟨by omega,by omega⟩,i+1,⟨G,λx T=>?_⟩,by omega,by omega⟩
   rw[hsn] at T;rcases List.mem_append.1 T with V | V
   .exact M x V
   .rw[List.mem_singleton] at V;rw[V];exact⟨by omega,by omega,Q⟩
 .have:i=l.length:=by omega
  subst this;rw[List.take_length] at M;simp+decide[int,zn];exact⟨by omega,M⟩
structure LangC(g:Lang):Prop where
 inv:DT g.inv
 orth:OrthC g.orth
 rules:RulesC g.rules
 steps:g.net.steps.length<=1048576
 final:g.net.final.length<=1048576
 lex:LexC g.lex
structure RightF(g:Lang):Prop where
 rules:∀ r∈g.rules,RuleL r
 Y7:∀ r∈g.rules,VD g.inv r
 net:NetF g.net
 lex:LexF g.inv g.lex
 main:MainF g.lex
 units1:∀ u∈g.orth.units,UnitF u
theorem RightF.graphs{g:Lang}(h:RightF g):∀ u∈g.orth.units,0<u.graph.size:=λu H=>(h.units1 u H).pos
theorem Ti(g:Lang)(G:LangC g)(F:g.lex.length<=5):xT Tryz.prog 39 [g.d] (λx=>∃ n,x=int n/\(n=0->RightF g)):=by
 have H:=G.inv.1
 refine qy mixed Tryz.func39 rfl c_39 ?_
 simp+decide[Tryz.f39,int,Lang.d]
 refine zc.some (by rfl) (P2 g.inv G.inv) ?_
 rintro r ⟨n,rfl⟩
 by_cases z1:n=0
 case neg=>simp+decide[int,z1]
 simp+decide[int,z1]
 refine zc.some (by rfl) (Tf g.inv g.orth G.orth (by omega)) ?_
 rintro r ⟨n,rfl,E⟩
 by_cases z2:n=0
 case neg=>simp+decide[int,z2]
 have E:=E z2
 simp+decide[int,z2]
 refine zc.some (by rfl) (Pe g G.rules) ?_
 rintro r ⟨n,rfl,K⟩
 by_cases z3:n=0
 case neg=>simp+decide[int,z3]
 have K:=K z3
 simp+decide[int,z3]
 refine zc.some (by rfl) (Pf g.net G.steps G.final) ?_
 rintro r ⟨n,rfl,J⟩
 by_cases z4:n=0
 case neg=>simp+decide[int,z4]
 have J:=J z4
 simp+decide[int,z4]
 refine zc.some (by rfl) (T0 g.inv g.lex G.lex) ?_
 rintro r ⟨n,rfl,L⟩
 by_cases z5:n=0
 case neg=>simp+decide[int,z5]
 have L:=L z5
 simp+decide[int,z5]
 refine zc.some (by rfl) (Tb g.lex F λe M=>(L.each e M).links) ?_
 rintro r ⟨n,rfl⟩
 by_cases z6:n=0
 case neg=>simp+decide[int,z6]
 simp+decide[int,z6]
 refine zc.some (by rfl) (Tc g.lex (by omega)) ?_
 rintro r ⟨n,rfl,O⟩
 simp+decide[int]
 exact λh=>⟨λr Q=>(K r Q).1,λr Q=>(K r Q).2,J,L,O h,E⟩
structure LightF(g:Lang):Prop extends RightF g where
 small:SmallL g.lex
 segs:g.inv.length<=8
 units:g.orth.units.length<=10
 few:g.rules.length<=2
 states:g.net.states<=3
 steps:g.net.steps.length<=6
 final:g.net.final.length<=3
theorem Tj(g:Lang)(K:LangC g):xT Tryz.prog 12 [g.d] (λx=>∃ b,x = .bool b/\(b=true->LightF g)):=by
 have F:=K.lex.few
 have E:=K.rules.few
 refine qy mixed Tryz.func12 rfl c_12 ?_
 by_cases c1:(8:Int)<g.inv.length
 .simp+decide[Tryz.f12,int,Lang.d,zH,c1]
 by_cases c2:(10:Int)<g.orth.units.length
 .simp+decide[Tryz.f12,int,Lang.d,zH,zI,c1,c2]
 by_cases c3:(2:Int)<g.rules.length
 .simp+decide[Tryz.f12,int,Lang.d,zH,zI,yr,c1,c2,c3]
 by_cases c4:3<g.net.states
 .simp+decide[Tryz.f12,int,Lang.d,zH,zI,yr,c1,c2,c3,c4]
 by_cases c5:(6:Int)<g.net.steps.length
 .simp+decide[Tryz.f12,int,Lang.d,zH,zI,yr,stepsD,c1,c2,c3,c4,c5]
 by_cases c6:(3:Int)<g.net.final.length
 .simp+decide[Tryz.f12,int,ints,Lang.d,zH,zI,yr,stepsD,c1,c2,c3,c4,c5,c6]
 simp+decide[Tryz.f12,int,ints,Lang.d,zH,zI,yr,stepsD,c1,c2,c3,c4,c5,c6]
 refine zc.some (by rfl) (Tg g.lex F) ?_
 rintro r ⟨b,rfl,J⟩
 cases b with
 |false=>simp+decide[int]
 |true=>
  have J:=J rfl;simp+decide[int];refine zr mixed (λk:Nat=>{n:=66,next:=1,slots:=[(1,.bp 0 0),(3,.d (int k))],own:=[(0,.box 36 (zj g.d))]})
   (λk=>k<=g.rules.length) (λk=>g.rules.length-k) 0 (by simp) (by simp+decide[int,ints,zH,zI,yr,stepsD,zj,Lang.d]) ?_
  intro k L;by_cases G:k<g.rules.length
  .have H:(k:Int)<g.rules.length:=by omega
   obtain⟨r,er⟩:∃ r,g.rules[k]=r:=⟨_,rfl⟩;have er1:g.rules[k]?=some r:=by rw[List.getElem?_eq_getElem G,er]
   by_cases d1:(8:Int)<r.src.length
   .simp+decide[int,ints,yr,zj,Lang.d,G,H,er,er1,Rule.row,d1]
   .simp+decide[int,ints,yr,zj,Lang.d,G,H,er,er1,Rule.row,d1,I64]
    exact⟨⟨by omega,by omega⟩,k+1,G,by omega,by omega⟩
  .have H:¬(k:Int)<g.rules.length:=by omega
   simp+decide[int,yr,zj,Lang.d,H];refine zc.some (by rfl) (Ti g K J.few) ?_
   rintro r ⟨n,rfl,M⟩
   simp+decide[int];by_cases z:n=0
   .exact .inr ⟨z,M z,J,by omega,by omega,by omega,by omega,by omega,by omega⟩
   .exact .inl z
theorem LightF.v6{g:Lang}(h:LightF g):NetL g.net:=
 {lo:=h.net.lo,hi:=h.states,steps:=λs hs=>⟨(h.net.steps s hs).1,(h.net.steps s hs).2.1,(h.net.steps s hs).2.2.1⟩,final:=h.net.final,few:=by have:=h.steps;omega,few2:=by have:=h.final;omega}
theorem LightF.wA{g:Lang}(h:LightF g)(G:LangC g):LangR g:=by
 have hs:=h.small
 have H:∀ e∈g.lex,∀ w∈e.forms,WordF g.inv w:=by
  intro e F w E;have K:=h.lex.each e F;rcases List.mem_cons.1 E with e1 | e1
  .rw[e1];exact K.form
  .exact K.alts w e1
 refine {lex:=⟨by have:=hs.few;omega,λe F=>by have:=(hs.forms e F).2.1;omega,λe F w E=>by have:=(H e F w E).len;omega,λe F=>by have:=(G.lex.each e F).senses.1;omega⟩,inv:=by have:=h.segs;omega,rules:=⟨λr J=>(h.rules r J).toRuleOk,by have:=h.few;omega⟩,net:=h.v6.ok,light:=h.v6,rulesL:=h.rules,nz:=λe F w E x L=>?_}
 have:=(H e F w E).segs x L
 simp only[yG,Bool.and_eq_true,decide_eq_true_eq] at this
 omega
end Go.V
namespace Go.V
open Go Go.Proofs
theorem lex_lt{l:List Ent}(h:∀ k (h:k+1<l.length),l[k].id<l[k+1].id):∀ (d i:Nat) (hj:i+d+1<l.length),l[i].id<l[i+d+1].id
 |0,i,hj=>h i hj
 |d+1,i,hj=>by
  have H:=lex_lt h d i (by omega)
  have G:=h (i+d+1) hj;exact Int.lt_trans H G
theorem J1{l:List Ent}(h:∀ k (h:k+1<l.length),l[k].id<l[k+1].id){e:Ent}(H:e∈l):zD l e.id=(e,true):=by
 obtain⟨i,hi,ei⟩:=List.mem_iff_getElem.1 H
 unfold zD
 have:l.find? (λx=>decide (x.id=e.id))=some e:=by
  rw[List.find?_eq_some_iff_getElem];refine⟨by simp,i,hi,ei,λj hj=>?_⟩
  have:=lex_lt h (i-j-1) j (by omega)
  have e2:j+(i-j-1)+1=i:=by omega
  simp only[e2] at this;rw[ei] at this;simp
  omega
 rw[this]
theorem BG{inv:List Phon}{l:List Ent}(G:∀ e∈l,EntF inv e)(F:∀ e∈l,e.main≠0->0<=yQ l e.main):∀ (f:Nat) (id:Int),(xu l f id).length<f->(zD l id).2=true->vp l (xu l f id)≠[]
 |0,id,h,_=>by omega
 |f+1,id,h,E=>by
  have H:=Yg E;unfold xu at h ⊢;rw[if_pos E] at h ⊢;unfold vp;by_cases hs:(zD l id).1.senses≠[]
  .rw[if_pos hs];exact hs
  .rw[if_neg hs]
   have K:(zD l id).1.main≠0:=by
    rcases(G _ H).senses with J | J
    .exact absurd J hs
    .exact J
   rw[if_neg K] at h ⊢;refine BG G F f _ (by simpa using h) ?_
   rcases jC l (zD l id).1.main with⟨L,_⟩ | ⟨j,hj,_,M⟩
   .exact absurd (F _ H K) (by omega)
   .rw[M]
theorem LightF.senses{g:Lang}(h:LightF g){e:Ent}(H:e∈g.lex):yW g.lex e.id≠[]:=by
 unfold yW
 rw[XH]
 refine BG h.lex.each h.main.main _ _ ?_ (by rw[J1 h.lex.up H])
 have:=h.main.ends e H
 omega
section
variable (g:Lang) (w:List Int)
def yY:Nat:=if kG g.rules=true then 24 else w.length
def kT(b:List Prt):Bool:=decide (w.length<=(zL g.lex b).length)&&vq g w b
def xy:Nat->List Prt->List (List Prt)
 |0,_=>[]
 |f+1,a=>g.lex.flatMap λe=>if e.cls∈vu g.net (yi g.lex a) 20 then ((List.range e.forms.length).flatMap λ(alt:Nat)=>
   if yY g w<(zL g.lex (a++[⟨e.id,alt,0⟩])).length then [] else (if kT g w (a++[⟨e.id,alt,0⟩])=true then [a++[⟨e.id,alt,0⟩]] else [])++xy f (a++[⟨e.id,alt,0⟩])) else []
def v7(base:List Int):Bool:=decide (x7 g.inv g.rules base≠[])&&decide (x7 g.inv g.rules base=w)
def walkT:Nat->List Prt->Nat->List Int->List (List Prt×List Int)
 |0,_,_,_=>[]
 |f+1,a,s,base=>g.lex.flatMap λe=>if ym g.net.steps s e.cls≠0 then ((List.range e.forms.length).flatMap λ(alt:Nat)=>
   if yY g w<(base++e.forms[alt]?.getD []).length then [] else
   (if ym g.net.steps s e.cls &&& y6 g.net.final≠0/\w.length<=(base++e.forms[alt]?.getD []).length/\v7 g w (base++e.forms[alt]?.getD [])=true then [(a++[⟨e.id,alt,0⟩],base++e.forms[alt]?.getD [])] else []) ++
    walkT f (a++[⟨e.id,alt,0⟩]) (ym g.net.steps s e.cls) (base++e.forms[alt]?.getD [])) else []
end
theorem Qc{α β:Type}{f h:α->List β}:∀ {l:List α},(∀ x∈l,f x=h x)->l.flatMap f=l.flatMap h
 | [],_=>rfl
 |a::l,e=>by
  rw[List.flatMap_cons,List.flatMap_cons,e a (List.mem_cons_self ..),Qc λx H=>e x (List.mem_cons_of_mem _ H)]
theorem Uw{α β:Type}{l:List α}{f:α->List β}(h:∀ x∈l,f x=[]):l.flatMap f=[]:=by
 rw[List.flatMap_eq_nil_iff];exact h
theorem BH{g:Lang}{w:List Int}(G:LightF g):∀ (f:Nat) (a:List Prt) (s:Nat) (base:List Int),s<2^g.net.states.toNat->Dead g.net s->walkT g w f a s base=[]
 |0,_,_,_,_,_=>rfl
 |f+1,a,s,base,hs,F=>by
  unfold walkT;refine Uw λe E=>?_
  split
  .refine Uw λalt _=>?_
   have K:=(G.lex.each e E).cls;have J:=SS G.v6 hs F K.1;have H:=Km G.v6 s e.cls;have L:=Bu G.v6 H J;split
   .rfl
   .rw[if_neg (λh=>h.1 L),BH G f _ _ _ H J];rfl
  .rfl
theorem Tk(n:Nett):Dead n 0:=by
 rw[Us];intro q _ h;rw[Nat.zero_testBit] at h;cases h
theorem BI{g:Lang}(H:LightF g)(cs:List Int){c:Int}(G:1<=c)(F:c<=20):c∈vu g.net cs 20↔¬Dead g.net (ym g.net.steps (yh g.net.steps cs) c):=by
 unfold vu Dead
 rw[List.mem_filter,List.mem_map]
 constructor
 .rintro⟨_,h⟩ h';rw[h'] at h;cases h
 .intro h
  refine⟨⟨(c-1).toNat,List.mem_range.2 (by omega),by omega⟩,?_⟩
  cases E:qT g.net.states.toNat (ym g.net.steps (yh g.net.steps cs) c) (jO g.net) with
  |true=>rfl
  |false=>exact absurd E h
theorem Qd{g:Lang}(H:LightF g){e:Ent}(G:e∈g.lex){alt:Nat}(F:alt<e.forms.length):xK g.lex ⟨e.id,alt,0⟩=(e,e.forms[alt]?.getD [],true):=by
 have h:=J1 H.lex.up G
 unfold xK
 simp only
 rw[if_pos ⟨by rw[h],by omega,by rw[h];show(alt:Int)<e.forms.length;omega⟩,h]
 rfl
theorem Ux{g:Lang}(H:LightF g){e:Ent}(G:e∈g.lex){alt:Nat}(F:alt<e.forms.length):xM g.lex ⟨e.id,alt,0⟩=0:=by
 have hs:0<(yW g.lex e.id).length:=List.length_pos_iff.2 (H.senses G)
 unfold xM
 rw[Qd H G F,J1 H.lex.up G]
 simp only[Bool.true_eq_false,if_false]
 rw[if_neg]
 rintro(h | h) <;> omega
theorem Tl{g:Lang}(H:LightF g){e:Ent}(G:e∈g.lex){alt:Nat}(F:alt<e.forms.length)(a:List Prt):yi g.lex (a++[⟨e.id,alt,0⟩])=yi g.lex a++[e.cls]:=by
 unfold yi
 rw[List.flatMap_append,List.flatMap_singleton,Qd H G F]
 rfl
theorem Tn{g:Lang}(H:LightF g){e:Ent}(G:e∈g.lex){alt:Nat}(F:alt<e.forms.length)(a:List Prt):zL g.lex (a++[⟨e.id,alt,0⟩])=zL g.lex a++e.forms[alt]?.getD []:=by
 unfold zL
 rw[List.flatMap_append,List.flatMap_singleton,Qd H G F]
 rfl
theorem J2{l:List Ent}:∀ {ps:List Prt},(∀ p∈ps,xM l p=0)->vo l ps=0
 | [],_=>rfl
 |p::ps,h=>by
  unfold vo;rw[if_pos (h p (List.mem_cons_self ..))];exact J2 λx H=>h x (List.mem_cons_of_mem _ H)
theorem Tp{g:Lang}{w:List Int}{b:List Prt}(F:∀ p∈b,xM g.lex p=0)(E:1<=b.length)(K:b.length<=4)(J:(zL g.lex b).length<=24):
  vq g w b=(decide (yh g.net.steps (yi g.lex b) &&& y6 g.net.final≠0)&&v7 g w (zL g.lex b)):=by
 have L:xX g b=if wU g.net (yi g.lex b)=false then 21 else 0:=by
  unfold xX;rw[if_neg (by omega),if_neg (by omega),if_neg (by rw[J2 F];simp),if_neg (show ¬24<(zL g.lex b).length by omega)]
 unfold vq xr v7
 rw[L]
 have H:wU g.net (yi g.lex b)=decide (yh g.net.steps (yi g.lex b) &&& y6 g.net.final≠0):=rfl
 rw[<-H]
 cases wU g.net (yi g.lex b) with
 |false=>simp
 |true=>
  simp only[Bool.true_eq_false,if_false,ne_eq,not_true_eq_false,Bool.true_and];by_cases M:x7 g.inv g.rules (zL g.lex b)=[]
  .simp[M]
  .have G:¬(x7 g.inv g.rules (zL g.lex b)).length=0:=λh=>M (List.length_eq_zero_iff.mp h)
   simp[M,G]
theorem Tq(n:Nett)(cs:List Int)(c:Int):yh n.steps (cs++[c])=ym n.steps (yh n.steps cs) c:=by unfold yh;rw[List.foldl_append];rfl
theorem BJ{g:Lang}{w:List Int}(K:LightF g)(J:w.length<=24):∀ (f:Nat) (a:List Prt),a.length+f=4->(∀ p∈a,xM g.lex p=0) ->
  walkT g w f a (yh g.net.steps (yi g.lex a)) (zL g.lex a)=(xy g w f a).map λb=>(b,zL g.lex b)
 |0,_,_,_=>rfl
 |f+1,a,L,M=>by
  have O:yY g w<=24:=by unfold yY;split <;> omega
  unfold walkT xy;rw[List.map_flatMap];refine Qc λe Q=>?_
  have T:=(K.lex.each e Q).cls;have G:=Km K.v6 (yh g.net.steps (yi g.lex a)) e.cls;by_cases V:Dead g.net (ym g.net.steps (yh g.net.steps (yi g.lex a)) e.cls)
  .rw[if_neg (λh=>(BI K _ T.1 T.2).1 h V)]
   have X:=Bu K.v6 G V;rw[List.map_nil];split
   .refine Uw λalt _=>?_
    split
    .rfl
    .rw[if_neg (λh=>h.1 X),BH K f _ _ _ G V];rfl
   .rfl
  .rw[if_pos ((BI K _ T.1 T.2).2 V),if_pos (λh=>V (by rw[h];exact Tk _)),List.map_flatMap]
   refine Qc λalt Y=>?_
   have Y:=List.mem_range.1 Y;rw[<-Tn K Q Y a];by_cases H:yY g w<(zL g.lex (a++[⟨e.id,(alt:Int),0⟩])).length
   .rw[if_pos H,if_pos H];rfl
   .rw[if_neg H,if_neg H,List.map_append]
    have F:∀ p∈a++[⟨e.id,(alt:Int),0⟩],xM g.lex p=0:=by
     intro p Z;rcases List.mem_append.1 Z with h | h
     .exact M p h
     .rw[List.mem_singleton] at h;rw[h];exact Ux K Q Y
    have A:ym g.net.steps (yh g.net.steps (yi g.lex a)) e.cls=yh g.net.steps (yi g.lex (a++[⟨e.id,(alt:Int),0⟩])):=by rw[Tl K Q Y,Tq]
    have E:=Tp (w:=w) F (by simp) (by simp;omega) (by omega)
    rw[A,BJ K J f _ (by simp;omega) F]
    congr 1
    unfold kT;rw[E];by_cases B:yh g.net.steps (yi g.lex (a++[⟨e.id,(alt:Int),0⟩])) &&& y6 g.net.final≠0
    .by_cases X:w.length<=(zL g.lex (a++[⟨e.id,(alt:Int),0⟩])).length
     .cases C:v7 g w (zL g.lex (a++[⟨e.id,(alt:Int),0⟩])) with
      |true=>rw[if_pos ⟨B,X,rfl⟩,if_pos (by simp[B,X])];rfl
      |false=>rw[if_neg (λh=>by cases h.2.2),if_neg (by simp)];rfl
     .rw[if_neg (λh=>X h.2.1),if_neg (by simp[X])];rfl
    .rw[if_neg (λh=>B h.1),if_neg (by simp only[ne_eq,Decidable.not_not] at B;simp[B])];rfl
end Go.V
namespace Go.V
open Go Go.Proofs
def Yv(base:List Int):List (List D):=base.map λx=>[.int .u8 (IntKind.u8.wrap x)]
def keyS(base:List Int):ByteArray:=⟨(base.map λx=>UInt8.ofNat (IntKind.u8.wrap x).toNat).toArray⟩
theorem BK:∀ base:List Int,bytesOf (base.map λx=>[D.int .u8 (IntKind.u8.wrap x)])=some (base.map λx=>UInt8.ofNat (IntKind.u8.wrap x).toNat)
 | []=>rfl
 |x::r=>by
  have:=BK r
  simp[bytesOf,this]
theorem key_ok(base:List Int)(E:base.length<=1048576):zi Tryz.prog 298 [ints base] (.str (keyS base)):=by
 refine zp mixed Tryz.func298 rfl c_298 ?_
 simp+decide[Tryz.f298,int,ints]
 refine⟨by omega,by unfold maxLen;omega,?_⟩
 refine zr mixed (λk:Nat=>{n:=23,next:=1,slots:=[(3,.ar 0),(9,.d (ints base)),(10,.d (int base.length)),(11,.d (int k))],own:=[(0,.arr 5 1 (Yv (base.take k)))],moved:=[0]})
  (λk=>k<=base.length) (λk=>base.length-k) 0 (by simp) (by simp+decide[int,ints,Yv]) ?_
 intro k K
 by_cases H:k<base.length
 .have G:(k:Int)<base.length:=by omega
  have hsn:=y9 H;obtain⟨x,ex⟩:∃ x,base[k]=x:=⟨_,rfl⟩;have e1:base[k]?=some x:=by rw[List.getElem?_eq_getElem H,ex]
  rw[ex] at hsn;have F:(Yv (base.take k)).length=k:=by simp[Yv];omega
  simp+decide[int,ints,H,G,e1,ex,I64,F];exact .inl ⟨by omega,by unfold maxLen;omega,⟨by omega,by omega⟩,k+1,H,by omega,by omega,by rw[hsn];simp[Yv]⟩
 .have:k=base.length:=by omega
  subst this;rw[List.take_length];simp+decide[int,ints,Yv,bytesOf,keyS,jc];rw[BK]
def ye(b:List Int):Prop:=∀ x∈b,0<=x/\x<256
theorem key_inj:∀ {a b:List Int},ye a->ye b->keyS a=keyS b->a=b:=by
 intro a b G F h
 have E:(a.map λx=>UInt8.ofNat (IntKind.u8.wrap x).toNat)=(b.map λx=>UInt8.ofNat (IntKind.u8.wrap x).toNat):=by
  unfold keyS at h;have:=congrArg (λs:ByteArray=>s.data.toList) h
  simpa using this
 have K:∀ x:Int,0<=x/\x<256->(UInt8.ofNat (IntKind.u8.wrap x).toNat).toNat=x.toNat:=by
  intro x K;rw[wrap_u8];simp only[UInt8.toNat_ofNat'];omega
 induction a generalizing b with
 |nil=>
  cases b with
  |nil=>rfl
  |cons y b=>simp at E
 |cons x a ih=>
  cases b with
  |nil=>simp at E
  |cons y b=>
   simp only[List.map_cons,List.cons.injEq] at E;have e1:=K x (G x (List.mem_cons_self ..));have e2:=K y (F y (List.mem_cons_self ..));rw[E.1,e2] at e1;have b1:=G x (List.mem_cons_self ..);have b2:=F y (List.mem_cons_self ..);have H:x=y:=by omega
   rw[H];congr 1
   refine ih (λz J=>G z (List.mem_cons_of_mem _ J)) (λz J=>F z (List.mem_cons_of_mem _ J)) ?_ E.2
   unfold keyS;rw[E.2]
def gK(g:Lang)(w:List Int)(tr:List (List Int)):List (List D):=tr.map λb=>[.str (keyS b),.bool (v7 g w b)]
theorem BL(g:Lang)(w:List Int){base:List Int}(G:ye base):∀ tr:List (List Int),(∀ b∈tr,ye b)->kp (.str (keyS base)) (gK g w tr)=some (if base∈tr then some (.bool (v7 g w base)) else none)
 | [],_=>rfl
 |m::r,h=>by
  simp only[gK,List.map_cons,kp,Z8];by_cases e:base=m
  .subst e;simp
  .have:¬keyS base=keyS m:=λF=>e (key_inj G (h m (List.mem_cons_self ..)) F)
   have ih:=BL g w G r λb H=>h b (List.mem_cons_of_mem _ H)
   simp only[gK] at ih;have this':¬keyS m=keyS base:=λF=>this F.symm
   simp[this,this',e,ih]
theorem BM(g:Lang)(w:List Int){base:List Int}(G:ye base):∀ tr:List (List Int),(∀ b∈tr,ye b)->base∉tr->kq (.str (keyS base)) (.bool (v7 g w base)) (gK g w tr)=some (gK g w (tr++[base]))
 | [],_,_=>rfl
 |m::r,h,F=>by
  simp only[List.mem_cons,not_or] at F;have:¬keyS base=keyS m:=λE=>F.1 (key_inj G (h m (List.mem_cons_self ..)) E)
  have this':¬keyS m=keyS base:=λE=>this E.symm
  have ih:=BM g w G r (λb H=>h b (List.mem_cons_of_mem _ H)) F.2
  simp only[gK] at ih ⊢;simp[kq,Z8,this,this',ih]
def zC(g:Lang)(w:List Int)(tr:List (List Int))(fn:Sym)(rest:List (Nat×Obj')):List (Nat×Obj'):=
 (0,.box 327 (zj g.d++[.d (ints w),.d (.bool (kG g.rules)),.d (u32 (y6 g.net.final)),.mp 1,fn]))::(1,.map 325 (gK g w tr))::rest
structure RestOk(n:Nat)(fn:Sym)(rest:List (Nat×Obj')):Prop where
 two:2<=n
 keys:(rest.map (·.1)).Nodup
 ids:∀ id o,(id,o)∈rest->2<=id/\id<n/\o.lo n
 range:0::1::rest.map (·.1)=List.range n
 thawed:∀ k x,n<=k->qG k x rest=rest
 thawC:∀ k x,n<=k->thaw k x fn=fn
 fn:Sym.lo n fn
theorem Uy{α:Type}:∀ {l:List (Nat×α)} {id:Nat} {o:α},(l.map (·.1)).Nodup->(id,o)∈l->zh l id=some o
 |(k,u)::l,id,o,H,G=>by
  simp only[List.map_cons,List.nodup_cons] at H;simp only[zh];rcases List.mem_cons.1 G with e | e
  .cases e;rw[if_pos rfl]
  .have:¬k=id:=by
    intro h;subst h;exact H.1 (List.mem_map.2 ⟨_,e,rfl⟩)
   rw[if_neg this];exact Uy H.2 e
theorem Yw{n:Nat}{fn:Sym}{rest:List (Nat×Obj')}(h:RestOk n fn rest){st:St}(G:∀ id,2<=id->id<n->zh st.own id=zh rest id){m:Nat}(F:n<=m)(H:∀ o:Obj',o.lo n->o.lo m):jg st m rest:=by
 have key:∀ l:List (Nat×Obj'),(∀ x∈l,x∈rest)->jg st m l:=by
  intro l;induction l with
  |nil=>intro _;simp[jg]
  |cons x l ih=>
   intro E;obtain⟨id,o⟩:=x;have K:=E (id,o) (List.mem_cons_self ..);have hi:=h.ids id o K;simp only[jg];refine⟨?_,by omega,H o hi.2.2,ih λy J=>E y (List.mem_cons_of_mem _ J)⟩
   rw[G id hi.1 hi.2.1,Uy h.keys K]
 exact key rest λ_ K=>K
theorem qN{n:Nat}{fn:Sym}{rest:List (Nat×Obj')}(h:RestOk n fn rest){st:St}{a b:Obj'}(H:st.own=(0,a)::(1,b)::rest):jg st n rest:=by
 refine Yw h (λid G h2=>?_) (Nat.le_refl _) (λ_ h=>h)
 rw[H]
 simp only[zh]
 rw[if_neg (by omega),if_neg (by omega)]
theorem J3{n:Nat}{fn:Sym}{rest:List (Nat×Obj')}(h:RestOk n fn rest){st:St}{a b c:Obj'}{k:Nat}(H:n<=k)(G:st.own=(k,c)::(0,a)::(1,b)::rest):jg st n rest:=by
 refine Yw h (λid F h2=>?_) (Nat.le_refl _) (λ_ h=>h)
 rw[G]
 simp only[zh]
 rw[if_neg (by omega),if_neg (by omega),if_neg (by omega)]
theorem RestOk.qg{n:Nat}{fn:Sym}{rest:List (Nat×Obj')}(h:RestOk n fn rest):(∀ (x:Obj'),¬(0,x)∈rest)/\(∀ (x:Obj'),¬(1,x)∈rest)/\(List.map (λx=>x.fst) rest).Nodup:=
 ⟨λx H=>by have:=(h.ids 0 x H).1;omega,λx H=>by have:=(h.ids 1 x H).1;omega,h.keys⟩
theorem Ts(g:Lang)(w:List Int)(tr:List (List Int))(n:Nat)(fn:Sym)(rest:List (Nat×Obj'))(Z:RestOk n fn rest)(A:LightF g)(s:Nat)(hs:s<8)(c:Int):
  zJ Tryz.prog 295 [.bp 0 0,.d (u32 s),.d (int c)] (zC g w tr fn rest) n (.d (u32 (ym g.net.steps s c))) n (zC g w tr fn rest) []:=by
 have B:=Z.two
 have O:0<n:=by omega
 refine xH mixed Tryz.func295 rfl c_295 (by simp[Sym.los,Sym.lo,O]) ?_
 have J:¬n=0:=by omega
 have L:¬n=1:=by omega
 have Q:=A.v6.few
 have G:=Z.qg
 have F:=Z.fn
 have C:∀ k,(g.net.steps.take k).foldl (x6 s c) 0<8:=λk=>Vs (λx I=>A.v6.ok.1 x (List.mem_of_mem_take I)) (by omega)
 simp+decide[Tryz.f295,zC,zj,Lang.d,int,ints,stepsD,u32]
 refine zr mixed (λk:Nat=>{n:=40,next:=n,slots:=[(1,.d (u32 s)),(2,.d (int c)),(7,.d (u32 ((g.net.steps.take k).foldl (x6 s c) 0))),(15,.d (stepsD g.net.steps)),(16,.d (int g.net.steps.length)),(17,.d (int k))],own:=zC g w tr fn rest,base:=n})
  (λk=>k<=g.net.steps.length) (λk=>g.net.steps.length-k) 0 (by simp) ?_ ?_
 .simp+decide[zC,zj,Lang.d,int,ints,stepsD,u32]
  exact⟨G,by omega,⟨by omega,F⟩,by omega,qN Z rfl⟩
 intro k N
 by_cases H:k<g.net.steps.length
 case neg=>
  have:k=g.net.steps.length:=by omega
  subst this;rw[List.take_length];simp+decide[zC,zj,Lang.d,int,ints,stepsD,u32,ym];exact⟨G,by omega,⟨by omega,F⟩,by omega,qN Z rfl⟩
 have E:(k:Int)<g.net.steps.length:=by omega
 have P:=A.v6.steps g.net.steps[k] (List.getElem_mem H)
 have Y:=A.v6.hi
 have hsn:(g.net.steps.take (k+1)).foldl (x6 s c) 0=x6 s c ((g.net.steps.take k).foldl (x6 s c) 0) g.net.steps[k]:=by rw[y9 H,List.foldl_append];rfl
 obtain⟨x,ex⟩:∃ x,g.net.steps[k]=x:=⟨_,rfl⟩
 have e1:g.net.steps[k]?=some x:=by rw[List.getElem?_eq_getElem H,ex]
 rw[ex] at P hsn
 have M:=C k
 generalize (g.net.steps.take k).foldl (x6 s c) 0=m at hsn M
 have T:x6 s c m x=if wj s x.src=true/\x.cls=c then xJ m x.dst else m:=rfl
 rw[T] at hsn
 by_cases S:x.cls=c
 case neg=>
  rw[if_neg (λh=>S h.2)] at hsn
  simp+decide[zC,zj,Lang.d,int,ints,stepsD,u32,H,E,ex,e1,Stp.row,J,L,S,I64];exact⟨⟨by omega,by omega⟩,k+1,H,by omega,G,⟨by rw[hsn],by omega⟩,by omega,⟨by omega,F⟩,by omega,J3 Z (Nat.le_refl _) rfl⟩
 have W:=D5 hs P.1.1 (show x.src<3 by omega)
 have V:=K2 M P.2.1.1 (show x.dst<3 by omega)
 simp+decide[zC,zj,Lang.d,int,ints,stepsD,u32,H,E,ex,e1,Stp.row,J,L,S,I64]
 refine⟨P.1.1,λhb1=>?_,λhb1=>?_⟩
 .have K:wj s x.src=true:=by rw[<-W];simpa using hb1
  rw[if_pos ⟨K,S⟩] at hsn;exact⟨P.2.1.1,⟨by omega,by omega⟩,k+1,H,by omega,G,⟨by rw[hsn];exact V,by omega⟩,by omega,⟨by omega,F⟩,by omega,J3 Z (Nat.le_refl _) rfl⟩
 .have X:¬wj s x.src=true:=by rw[<-W];simpa using hb1
  rw[if_neg (λh=>X h.1)] at hsn
  exact⟨⟨by omega,by omega⟩,k+1,H,by omega,G,⟨by rw[hsn],by omega⟩,by omega,⟨by omega,F⟩,by omega,J3 Z (Nat.le_refl _) rfl⟩
def vv(tr:List (List Int))(base:List Int):List (List Int):=if base∈tr then tr else tr++[base]
theorem BN(g:Lang)(w:List Int)(tr:List (List Int))(n:Nat)(fn:Sym)(rest:List (Nat×Obj'))(V:RestOk n fn rest)(X:LightF g)(Y:LangC g)(base:List Int)(Z:base.length<=24)(A:w.length<=24)(B:ye base)(C:∀ b∈tr,ye b):
  zJ Tryz.prog 294 [.bp 0 0,.d (ints base)] (zC g w tr fn rest) n (.d (.bool (v7 g w base))) n (zC g w (vv tr base) fn rest) []:=by
 have I:=V.two
 have J:0<n:=by omega
 have Q:¬n=0:=by omega
 have T:¬n=1:=by omega
 have G:=V.qg
 have F:=V.fn
 have N:=X.wA Y
 have P:=key_ok base (by omega)
 have S:=BL g w B tr C
 have W:=Df g.inv (by have:=N.inv;omega) g.rules N.rules.1 N.rules.2 base (by omega)
 have L:=Zo g.inv g.rules base
 refine xH mixed Tryz.func294 rfl c_294 (by simp[Sym.los,Sym.lo,J]) ?_
 simp+decide[Tryz.f294,zC,zj,Lang.d,int,ints,u32]
 refine zc.pure (by rfl) P (by simp[ints]) ?_
 unfold vv
 by_cases hm:base∈tr
 .rw[if_pos hm] at S ⊢
  simp+decide[S,int];exact⟨G,by omega,⟨by omega,F⟩,by omega,qN V rfl⟩
 rw[if_neg hm] at S ⊢
 have hP:=BM g w B tr C hm
 simp+decide[S,int]
 have E:v7 g w base=(decide (x7 g.inv g.rules base≠[])&&decide (x7 g.inv g.rules base=w)):=rfl
 refine zq (by rfl) (by rfl) W (by simp[int,ints]) ?_
 have hE:=FY (x7 g.inv g.rules base) w (by omega)
 generalize x7 g.inv g.rules base=v at W hE L E
 by_cases hv:v.length=0
 .have H:v=[]:=List.length_eq_zero_iff.mp hv
  have K:v7 g w base=false:=by rw[E,H];rfl
  rw[K] at hP ⊢;simp+decide[int,ints,hv,H,hP];exact⟨G,by omega,⟨by omega,F⟩,by omega,qN V rfl⟩
 .have H:v≠[]:=λh=>hv (by rw[h];rfl)
  have M:(0:Int)<v.length:=by omega
  have K:v7 g w base=decide (v=w):=by rw[E];simp[H]
  rw[K] at hP ⊢;have O:0<v.length:=by omega
  simp+decide[int,ints,hv,M,H,O];refine zc.pure (by rfl) hE (by simp[ints]) ?_
  simp+decide[int,ints,hP];exact⟨G,by omega,⟨by omega,F⟩,by omega,qN V rfl⟩
end Go.V
namespace Go.V
open Go Go.Proofs
section
variable {ρ:Nat->Nat} {m:Nat}
mutual
theorem Uz(h:∀ i,i<m->ρ i=i):∀ {s:Sym},Sym.lo m s->ren ρ s=s
 |.bp i o,hl=>by simp only[Sym.lo] at hl;simp only[ren,h i hl]
 |.ar i,hl=>by simp only[Sym.lo] at hl;simp only[ren,h i hl]
 |.ap i s j o,hl=>by simp only[Sym.lo] at hl;simp only[ren,h i hl]
 |.aS i s j o,hl=>by simp only[Sym.lo] at hl;simp only[ren,h i hl]
 |.av i s j o,hl=>by simp only[Sym.lo] at hl;simp only[ren,h i hl]
 |.yd i,hl=>by simp only[Sym.lo] at hl;simp only[ren,h i hl]
 |.mp i,hl=>by simp only[Sym.lo] at hl;simp only[ren,h i hl]
 |.tup l,hl=>by simp only[Sym.lo] at hl;simp only[ren,gP h hl]
 |.agg l,hl=>by simp only[Sym.lo] at hl;simp only[ren,gP h hl]
 |.fn f l,hl=>by simp only[Sym.lo] at hl;simp only[ren,gP h hl]
 |.d x,_=>rfl
 |.nils,_=>rfl
 |.junk,_=>rfl
theorem gP(h:∀ i,i<m->ρ i=i):∀ {l:List Sym},Sym.los m l->y8 ρ l=l
 | [],_=>rfl
 |s::l,hl=>by
  simp only[Sym.los] at hl;simp only[y8,Uz h hl.1,gP h hl.2]
end
theorem BO(h:∀ i,i<m->ρ i=i):∀ {o:Obj'},o.lo m->qI ρ o=o
 |.box T l,hl=>by simp only[Obj'.lo] at hl;simp only[qI,gP h hl]
 |.arr _ _ _,_=>rfl
 |.map _ _,_=>rfl
 |.raw k l,hl=>by simp only[Obj'.lo] at hl;simp only[qI,gP h hl]
theorem UA(h:∀ i,i<m->ρ i=i):∀ {l:List (Nat×Obj')},(∀ i o,(i,o)∈l->i<m/\o.lo m)->w9 ρ l=l
 | [],_=>rfl
 |(i,o)::l,H=>by
  have G:=H i o (List.mem_cons_self ..);simp only[w9,h i G.1,BO h G.2,UA h λj p hj=>H j p (List.mem_cons_of_mem _ hj)]
mutual
theorem BP:∀ (s:Sym),zP [] s=s
 |.bp _ _=>by simp[zP]
 |.ar _=>by simp[zP]
 |.ap _ _ _ _=>by simp[zP]
 |.aS _ _ _ _=>by simp[zP]
 |.av _ _ _ _=>by simp[zP]
 |.yd _=>by simp[zP]
 |.mp _=>by simp[zP]
 |.tup l=>by simp[zP,Yx l]
 |.agg l=>by simp[zP,Yx l]
 |.fn f l=>by simp[zP,Yx l]
 |.d _=>by simp[zP]
 |.nils=>by simp[zP]
 |.junk=>by simp[zP]
theorem Yx:∀ (l:List Sym),qa [] l=l
 | []=>by simp[qa]
 |s::l=>by simp[qa,BP s,Yx l]
end
theorem BQ:∀ (l:List (Nat×Sym)),w8 [] l=l
 | []=>rfl
 |(t,s)::l=>by simp[w8,BP s,BQ l]
theorem Tt:∀ (o:Obj'),jd [] o=o
 |.box T l=>by simp[jd,Yx l]
 |.arr _ _ _=>by simp[jd]
 |.map _ _=>by simp[jd]
 |.raw k l=>by simp[jd,Yx l]
def yR(n:Nat):List (Nat×Obj')->List (Nat×Obj')
 | []=>[]
 |(i,o)::r=>if i<n then yR n r else (i,o)::yR n r
theorem BR(n:Nat):∀ l:List (Nat×Obj'),vF (List.range n) [] l=yR n l
 | []=>rfl
 |(i,o)::r=>by
  simp only[vF,yR,List.mem_range,Tt,BR n r]
theorem UB{st:St}{n:Nat}:∀ {l:List (Nat×Obj')},(∀ i o,(i,o)∈l->i<n/\o.lo n/\zh st.own i=some o)->vG st (List.range n) l
 | [],_=>trivial
 |(i,o)::r,h=>by
  obtain⟨H,G,F⟩:=h i o (List.mem_cons_self ..);have E:∀ j,j<n->rho (List.range n) j=j:=λj hj=>by unfold rho;simp[List.getD,hj]
  simp only[vG,List.length_range];refine⟨?_,G,UB λj p hj=>h j p (List.mem_cons_of_mem _ hj)⟩
  rw[E i H];unfold St.look;rw[F,BO E G]
end
theorem UC{P:Program}{st:St}{f:Operand}{xs:List Operand}{dst:Option Tmp}{K:St->Prop}{g:Nat}{caps:List Sym}{n:Nat}{own0 own':List (Nat×Obj')}{s:Sym}
  (J:xe (st.val f)=some (g,caps)) (L:Sym.los n (xs.map st.val++caps)) (M:n<=st.next) (H:own0.map (·.1)=List.range n) (G:∀ i o,(i,o)∈own0->i<n/\o.lo n/\zh st.own i=some o)
  (E:∀ i o,(i,o)∈own'->i<n/\o.lo n) (hs:Sym.lo n s) (O:zJ P g (xs.map st.val++caps) own0 n s n own' []) (Q:K (({st with own:=own'++yR n st.own}).put dst s)):zc P st f xs dst K:=by
 have T:∀ j,j<n->rho (List.range n) j=j:=λj hj=>by unfold rho;simp[List.getD,hj]
 have F:∀ j,j<n->yo (List.range n) st.next j=j:=λj hj=>by unfold yo;simp[List.getD,hj]
 refine zc.mut (List.range n) (xs.map st.val++caps) own0 J (gP T L) (by rw[List.length_range];exact L) ⟨List.nodup_range,λid hid=>by have:=List.mem_range.1 hid;omega,by rw[List.length_range];exact H,UB G⟩ (by rw[List.length_range];exact O) ?_
 have e1:st.after (List.range n) n own' [] = {st with own:=own'++yR n st.own}:=by
  unfold St.after;simp only[List.map_nil,BQ,List.length_range,Nat.sub_self,Nat.add_zero,List.nil_append,UA F E,BR]
 rw[e1,Uz F hs]
 exact Q
def xh(n:Nat)(mv:List Nat)(l:List (Nat×Obj')):Prop:=∀ i o,(i,o)∈l->n<=i->jd mv o=o
theorem xh.nil{n:Nat}{mv:List Nat}:xh n mv []:=λ_ _ h=>by cases h
theorem xh.cons{n:Nat}{mv:List Nat}{i:Nat}{o:Obj'}{l:List (Nat×Obj')}(h:jd mv o=o)(H:xh n mv l):xh n mv ((i,o)::l):=by
 intro j p G F
 rcases List.mem_cons.1 G with e | e
 .cases e;exact h
 .exact H j p e F
theorem xh.under{n:Nat}{mv:List Nat}{i:Nat}{o:Obj'}{l:List (Nat×Obj')}(h:i<n)(H:xh n mv l):xh n mv ((i,o)::l):=by
 intro j p G F
 rcases List.mem_cons.1 G with e | e
 .cases e;omega
 .exact H j p e F
theorem xh.app{n:Nat}{mv:List Nat}{l r:List (Nat×Obj')}(h:xh n mv l)(H:xh n mv r):xh n mv (l++r):=by
 intro j p G F
 rcases List.mem_append.1 G with e | e
 .exact h j p e F
 .exact H j p e F
theorem xh.rest{n:Nat}{mv:List Nat}{fn:Sym}{rest:List (Nat×Obj')}(h:RestOk n fn rest):xh n mv rest:=by
 intro j p H G
 have:=(h.ids j p H).2.1
 omega
theorem xh.two{n:Nat}{mv:List Nat}{fn:Sym}{rest:List (Nat×Obj')}(h:RestOk n fn rest){a b:Obj'}:xh n mv ((0,a)::(1,b)::rest):=
 .under (by have:=h.two;omega) (.under (by have:=h.two;omega) (.rest h))
theorem BS{n:Nat}{mv:List Nat}:∀ {l:List (Nat×Obj')},xh n mv l->vF (List.range n) mv l=yR n l
 | [],_=>rfl
 |(i,o)::r,h=>by
  have ih:=BS (l:=r) λj p H G=>h j p (List.mem_cons_of_mem _ H) G
  simp only[vF,yR,List.mem_range,ih];by_cases c:i<n
  .rw[if_pos c,if_pos c]
  .rw[if_neg c,if_neg c,h i o (List.mem_cons_self ..) (by omega)]
theorem J4{P:Program}{st:St}{f:Operand}{xs:List Operand}{dst:Option Tmp}{K:St->Prop}{g:Nat}{caps:List Sym}{n:Nat}{own0 own':List (Nat×Obj')}{s:Sym}{mv:List Nat}
  (E:∀ i∈mv,2<=i/\i<n)
  (O:xe (st.val f)=some (g,caps)) (Q:Sym.los n (xs.map st.val++caps)) (T:n<=st.next) (H:own0.map (·.1)=List.range n) (G:∀ i o,(i,o)∈own0->i<n/\o.lo n/\zh st.own i=some o)
  (J:∀ i o,(i,o)∈own'->i<n/\o.lo n) (hs:Sym.lo n s) (V:zJ P g (xs.map st.val++caps) own0 n s n own' mv) (L:w8 mv st.slots=st.slots) (M:xh n mv st.own)
  (X:K (({st with own:=own'++yR n st.own,moved:=mv++st.moved}).put dst s)):zc P st f xs dst K:=by
 have Y:∀ j,j<n->rho (List.range n) j=j:=λj hj=>by unfold rho;simp[List.getD,hj]
 have F:∀ j,j<n->yo (List.range n) st.next j=j:=λj hj=>by unfold yo;simp[List.getD,hj]
 refine zc.mut (List.range n) (xs.map st.val++caps) own0 O (gP Y Q) (by rw[List.length_range];exact Q) ⟨List.nodup_range,λid hid=>by have:=List.mem_range.1 hid;omega,by rw[List.length_range];exact H,UB G⟩ (by rw[List.length_range];exact V) ?_
 have em:mv.map (yo (List.range n) st.next)=mv:=by
  have:∀ l:List Nat,(∀ i∈l,i∈mv)->l.map (yo (List.range n) st.next)=l:=by
   intro l;induction l with
   |nil=>intro _;rfl
   |cons i l ih=>
    intro h;rw[List.map_cons,F i (E i (h i (List.mem_cons_self ..))).2,ih λj hj=>h j (List.mem_cons_of_mem _ hj)]
  exact this mv λ_ h=>h
 have e1:st.after (List.range n) n own' mv = {st with own:=own'++yR n st.own,moved:=mv++st.moved}:=by
  unfold St.after;rw[em,L,BS M,UA F J];simp only[List.length_range,Nat.sub_self,Nat.add_zero]
 rw[e1,Uz F hs]
 exact X
theorem jw{n:Nat}{fn:Sym}{rest:List (Nat×Obj')}(h:RestOk n fn rest):yR n rest=[]:=by
 have key:∀ l:List (Nat×Obj'),(∀ x∈l,x∈rest)->yR n l=[]:=by
  intro l;induction l with
  |nil=>intro _;rfl
  |cons x l ih=>
   intro H;obtain⟨i,o⟩:=x;have:=(h.ids i o (H _ (List.mem_cons_self ..))).2.1
   simp only[yR];rw[if_pos this];exact ih λy G=>H y (List.mem_cons_of_mem _ G)
 exact key rest λ_ hx=>hx
theorem Qe{n:Nat}{fn:Sym}{rest:List (Nat×Obj')}(h:RestOk n fn rest){st:St}{a b c:Obj'}{k m:Nat}(H:n<=k)(G:n<=m)(F:st.own=(k,c)::(0,a)::(1,b)::rest):jg st m rest:=by
 refine Yw h (λid E h2=>?_) G (λ_ h=>Obj'.vY G h)
 rw[F]
 simp only[zh]
 rw[if_neg (by omega),if_neg (by omega),if_neg (by omega)]
theorem RestOk.gQ{n:Nat}{fn:Sym}{rest:List (Nat×Obj')}(h:RestOk n fn rest):(∀ (x:Obj'),¬(n,x)∈rest)/\(∀ (x:Obj'),¬(0,x)∈rest)/\(∀ (x:Obj'),¬(1,x)∈rest)/\(List.map (λx=>x.fst) rest).Nodup:=
 ⟨λx H=>by have:=(h.ids n x H).2.1;omega,h.qg⟩
theorem RestOk.caps{n f:Nat}{l:List Sym}{rest:List (Nat×Obj')}(h:RestOk n (.fn f l) rest){m:Nat}(H:n<=m):Sym.los m l:=by
 have:=h.fn
 simp only[Sym.lo] at this
 exact Sym.ZX H this
theorem Tv{P:Program}{c:Code}{Q:DE->St->Prop}{st:St}(keep:List Nat)(h:∀ id∈st.moved,st.base<=id\/id∈keep)(G:Triple P c Q {st with moved:=keep}):Triple P c Q st:=λX w0 β a w F=>
 G X w0 β a w {F with still:=⟨F.still.1,λid hid E=>F.still.2 id hid (λH=>(h id H).elim (λK=>absurd K (Nat.not_le_of_lt hid)) E)⟩}
theorem BU{α:Type}{id:Nat}:∀ {l pre:List (Nat×α)},(∀ x∈pre,x.1≠id)->zh (l++pre) id=zh l id
 | [],pre,h=>by
  induction pre with
  |nil=>rfl
  |cons x pre ih=>
   obtain⟨k,o⟩:=x;simp only[List.nil_append,zh] at ih ⊢;rw[if_neg (h (k,o) (List.mem_cons_self ..))];have:=ih λy H=>h y (List.mem_cons_of_mem _ H)
   simpa using this
 |(k,o)::l,pre,h=>by
  simp only[List.cons_append,zh];rw[BU (l:=l) h]
theorem UD{n:Nat}{fn:Sym}{rest:List (Nat×Obj')}(h:RestOk n fn rest){pre:List (Nat×Obj')}{id:Nat}(hid:n<=id):zh (rest++pre) id=zh pre id:=by
 have key:∀ l:List (Nat×Obj'),(∀ x∈l,x∈rest)->zh (l++pre) id=zh pre id:=by
  intro l;induction l with
  |nil=>intro _;rfl
  |cons x l ih=>
   intro H;obtain⟨k,o⟩:=x;have G:=(h.ids k o (H _ (List.mem_cons_self ..))).2.1;simp only[List.cons_append,zh];rw[if_neg (by omega)]
   exact ih λy F=>H y (List.mem_cons_of_mem _ F)
 exact key rest λ_ hx=>hx
theorem Qf{n:Nat}{fn:Sym}{rest:List (Nat×Obj')}(h:RestOk n fn rest){st:St}{a b c:Obj'}{k m:Nat}(H:n<=k)(G:n<=m)(F:st.own=(0,a)::(1,b)::(rest++[(k,c)])):jg st m rest:=by
 refine Yw h (λid E h2=>?_) G (λ_ h=>Obj'.vY G h)
 rw[F]
 simp only[zh]
 rw[if_neg (by omega),if_neg (by omega)]
 exact BU λx hx=>by rw[List.mem_singleton] at hx;rw[hx];show k≠id;omega
mutual
theorem Tw{k m:Nat}(h:m<=k):∀ {s:Sym},Sym.lo m s->zS k s=s
 |.bp i o,hl=>by simp only[Sym.lo] at hl;simp only[zS];rw[if_neg (by omega)]
 |.ar i,hl=>by simp only[Sym.lo] at hl;simp only[zS];rw[if_neg (by omega)]
 |.ap i s j o,hl=>by simp only[Sym.lo] at hl;simp only[zS];rw[if_neg (by omega)]
 |.aS i s j o,hl=>by simp only[Sym.lo] at hl;simp only[zS];rw[if_neg (by omega)]
 |.av i s j o,hl=>by simp only[Sym.lo] at hl;simp only[zS];rw[if_neg (by omega)]
 |.yd i,hl=>by simp only[Sym.lo] at hl;simp only[zS];rw[if_neg (by omega)]
 |.mp i,hl=>by simp only[Sym.lo] at hl;simp only[zS];rw[if_neg (by omega)]
 |.tup l,hl=>by simp only[Sym.lo] at hl;simp only[zS,ZJ h hl]
 |.agg l,hl=>by simp only[Sym.lo] at hl;simp only[zS,ZJ h hl]
 |.fn f l,hl=>by simp only[Sym.lo] at hl;simp only[zS,ZJ h hl]
 |.d x,_=>rfl
 |.nils,_=>rfl
 |.junk,_=>rfl
theorem ZJ{k m:Nat}(h:m<=k):∀ {l:List Sym},Sym.los m l->qH k l=l
 | [],_=>rfl
 |s::l,hl=>by
  simp only[Sym.los] at hl;simp only[qH,Tw h hl.1,ZJ h hl.2]
end
theorem Tx{k m:Nat}(h:m<=k):∀ {o:Obj'},o.lo m->kW k o=o
 |.box T l,hl=>by simp only[Obj'.lo] at hl;simp only[kW,ZJ h hl]
 |.arr _ _ _,_=>rfl
 |.map _ _,_=>rfl
 |.raw k l,hl=>by simp only[Obj'.lo] at hl;simp only[kW,ZJ h hl]
theorem Tz{n k:Nat}{fn:Sym}{rest:List (Nat×Obj')}(h:RestOk n fn rest)(H:n<=k)(o':Obj'):vj k o' rest=rest:=by
 have key:∀ l:List (Nat×Obj'),(∀ x∈l,x∈rest)->vj k o' l=l:=by
  intro l;induction l with
  |nil=>intro _;rfl
  |cons x l ih=>
   intro G;obtain⟨i,o⟩:=x;have F:=h.ids i o (G _ (List.mem_cons_self ..));simp only[vj];rw[if_neg (by omega),Tx H F.2.2,ih λy E=>G y (List.mem_cons_of_mem _ E)]
 exact key rest λ_ hx=>hx
theorem BV{n:Nat}{fn:Sym}{rest:List (Nat×Obj')}(h:RestOk n fn rest){st:St}{a b c d:Obj'}{k j m:Nat}(hj:n<=j)(H:n<=k)(G:n<=m)(F:st.own=(j,d)::(k,c)::(0,a)::(1,b)::rest):jg st m rest:=by
 refine Yw h (λid E h2=>?_) G (λ_ h=>Obj'.vY G h)
 rw[F]
 simp only[zh]
 rw[if_neg (by omega),if_neg (by omega),if_neg (by omega),if_neg (by omega)]
theorem TA{n:Nat}{fn:Sym}{rest:List (Nat×Obj')}(h:RestOk n fn rest){st:St}{a b c d e:Obj'}{i j k m:Nat}(hi:n<=i)(hj:n<=j)(H:n<=k)(G:n<=m)(F:st.own=(i,e)::(j,d)::(k,c)::(0,a)::(1,b)::rest):jg st m rest:=by
 refine Yw h (λid E h2=>?_) G (λ_ h=>Obj'.vY G h)
 rw[F]
 simp only[zh]
 rw[if_neg (by omega),if_neg (by omega),if_neg (by omega),if_neg (by omega),if_neg (by omega)]
theorem RestOk.keys6{n:Nat}{fn:Sym}{rest:List (Nat×Obj')}(h:RestOk n fn rest):(∀ (x:Obj'),¬(n+2,x)∈rest)/\(∀ (x:Obj'),¬(n+1,x)∈rest)/\(∀ (x:Obj'),¬(n,x)∈rest)/\(∀ (x:Obj'),¬(0,x)∈rest)/\(∀ (x:Obj'),¬(1,x)∈rest)/\(List.map (λx=>x.fst) rest).Nodup:=
 ⟨λx H=>by have:=(h.ids _ x H).2.1;omega,λx H=>by have:=(h.ids _ x H).2.1;omega,h.gQ⟩
theorem RestOk.keys5{n:Nat}{fn:Sym}{rest:List (Nat×Obj')}(h:RestOk n fn rest):(∀ (x:Obj'),¬(n+1,x)∈rest)/\(∀ (x:Obj'),¬(n,x)∈rest)/\(∀ (x:Obj'),¬(0,x)∈rest)/\(∀ (x:Obj'),¬(1,x)∈rest)/\(List.map (λx=>x.fst) rest).Nodup:=
 ⟨λx H=>by have:=(h.ids _ x H).2.1;omega,h.gQ⟩
theorem gU{g:Lang}{w:List Int}{tr:List (List Int)}{n:Nat}{fn:Sym}{rest:List (Nat×Obj')}(h:RestOk n fn rest):(zC g w tr fn rest).map (·.1)=List.range n:=by
 rw[<-h.range];rfl
theorem jx{g:Lang}{w:List Int}{tr:List (List Int)}{n:Nat}{fn:Sym}{rest:List (Nat×Obj')}(h:RestOk n fn rest):∀ i o,(i,o)∈zC g w tr fn rest->i<n/\o.lo n:=by
 intro i o H
 have G:=h.two
 unfold zC at H
 rcases List.mem_cons.1 H with e | e
 .cases e
  refine⟨by omega,?_⟩
  simp[Obj'.lo,Sym.los,Sym.lo,zj,Lang.d,h.fn];omega
 .rcases List.mem_cons.1 e with e | e
  .cases e;exact⟨by omega,trivial⟩
  .have:=h.ids i o e;exact⟨by omega,this.2.2⟩
theorem ZK{g:Lang}{w:List Int}{tr:List (List Int)}{n:Nat}{fn:Sym}{rest:List (Nat×Obj')}(h:RestOk n fn rest):∀ i o,(i,o)∈zC g w tr fn rest->zh (zC g w tr fn rest) i=some o:=by
 intro i o H
 exact Uy (by rw[gU h];exact List.nodup_range) H
end Go.V
namespace Go.V
open Go Go.Proofs
section
variable {σ:Type}
structure Clo(P:Program)(g:Lang)(w:List Int)(σ:Type) where
 F:σ->List Prt->List Int->σ×Bool
 rest:σ->List (Nat×Obj')
 fid:Nat
 caps:List Sym
 n:Nat
 mv:List Nat
 mvOk:∀ i∈mv,2<=i/\i<n
 mvCaps:qa mv caps=caps
 Inv:Nat->σ->Prop
 ok:∀ x,RestOk n (.fn fid caps) (rest x)
 mono:∀ k x,Inv k x->Inv (k+1) x
 call:∀ k x tr a base,Inv k x->k<2^20->a.length<=4->base.length<=24 ->
  zJ P fid (.d (zg a) :: .d (ints base)::caps) (zC g w tr (.fn fid caps) (rest x)) n (.d (.bool (F x a base).2)) n (zC g w tr (.fn fid caps) (rest (F x a base).1)) mv/\Inv (k+1) (F x a base).1
abbrev qC(σ:Type):=(σ×List (List Int))×Bool
variable {P:Program} (g:Lang) (w:List Int) (C:Clo P g w σ)
def qq(x:σ×List (List Int))(a:List Prt)(s:Nat)(base:List Int):qC σ:=
 if a≠[]/\s &&& y6 g.net.final≠0/\w.length<=base.length then
  (if v7 g w base=true then (((C.F x.1 a base).1,vv x.2 base),(C.F x.1 a base).2) else ((x.1,vv x.2 base),true)) else (x,true)
def gV(wk:σ×List (List Int)->List Prt->Nat->List Int->qC σ)(e:Ent)(a:List Prt)(s:Nat)(base:List Int)(z:qC σ)(alt:Nat):qC σ:=
 if z.2=false then z else if yY g w<(base++e.forms[alt]?.getD []).length then z else wk z.1 (a++[⟨e.id,alt,0⟩]) s (base++e.forms[alt]?.getD [])
def stepS(wk:σ×List (List Int)->List Prt->Nat->List Int->qC σ)(e:Ent)(a:List Prt)(s:Nat)(base:List Int)(x:σ×List (List Int))(k:Nat):qC σ:=
 (List.range k).foldl (gV g w wk e a s base) (x,true)
def xO(wk:σ×List (List Int)->List Prt->Nat->List Int->qC σ)(a:List Prt)(s:Nat)(base:List Int)(y:qC σ)(e:Ent):qC σ:=
 if y.2=false then y else if ym g.net.steps s e.cls=0 then y else stepS g w wk e a (ym g.net.steps s e.cls) base y.1 e.forms.length
def zY:Nat->σ×List (List Int)->List Prt->Nat->List Int->qC σ
 |0,x,a,s,base=>qq g w C x a s base
 |f+1,x,a,s,base=>if (qq g w C x a s base).2=false then qq g w C x a s base else
   g.lex.foldl (xO g w (λx a s base=>zY f x a s base) a s base) ((qq g w C x a s base).1,true)
theorem BW(wk:σ×List (List Int)->List Prt->Nat->List Int->qC σ)(e:Ent)(a:List Prt)(s:Nat)(base:List Int)(x:σ×List (List Int))(k:Nat)(h:(stepS g w wk e a s base x k).2=false):∀ d,stepS g w wk e a s base x (k+d)=stepS g w wk e a s base x k
 |0=>rfl
 |d+1=>by
  have ih:=BW wk e a s base x k h d;have:stepS g w wk e a s base x (k+d+1)=gV g w wk e a s base (stepS g w wk e a s base x (k+d)) (k+d):=by
   unfold stepS;rw[List.range_succ,List.foldl_append];rfl
  rw[<-Nat.add_assoc,this,ih];unfold gV;rw[if_pos h]
def zU:Nat->Nat
 |0=>1
 |f+1=>1+10*zU f
end
structure WalkC(g:Lang)(w:List Int){σ:Type}(C:Clo Tryz.prog g w σ)(f:Nat):Prop where
 call:∀ k x tr a s base,C.Inv k x->k+zU f<=2^20->(∀ b∈tr,ye b)->a.length+f=4->s<8->base.length<=24->ye base ->
  zJ Tryz.prog 288 [.bp 0 0,.d (zg a),.d (u32 s),.d (ints base)] (zC g w tr (.fn C.fid C.caps) (C.rest x)) C.n
   (.d (.bool (zY g w C f (x,tr) a s base).2)) C.n (zC g w (zY g w C f (x,tr) a s base).1.2 (.fn C.fid C.caps) (C.rest (zY g w C f (x,tr) a s base).1.1)) C.mv
 inv:∀ k x tr a s base,C.Inv k x->k+zU f<=2^20->(∀ b∈tr,ye b)->a.length+f=4->s<8->base.length<=24->ye base ->
  C.Inv (k+zU f) (zY g w C f (x,tr) a s base).1.1/\∀ b∈(zY g w C f (x,tr) a s base).1.2,ye b
theorem uz{P:Program}{g:Lang}{w:List Int}{σ:Type}(C:Clo P g w σ){k x}(h:C.Inv k x):∀ d,C.Inv (k+d) x
 |0=>h
 |d+1=>C.mono _ _ (uz C h d)
def k6(g:Lang)(w:List Int){σ:Type}(C:Clo Tryz.prog g w σ)(e:Ent)(a:List Prt)(s:Nat)(base:List Int)(z:qC σ)(k:Nat):St:=
 {n:=78,next:=C.n+1,slots:=[(0,.bp 0 0),(2,.d (zg a)),(3,.d (u32 s)),(4,.d (ints base)),(6,.bp C.n 0),(27,.d (yc e.forms)),(28,.d (int e.forms.length)),(29,.d (int k))],own:=(C.n,.box 102 (e.row.map .d))::zC g w z.1.2 (.fn C.fid C.caps) (C.rest z.1.1),base:=C.n,moved:=C.mv}
theorem TB(g:Lang)(hg:LightF g)(hc:LangC g)(w:List Int)(hw:w.length<=24){σ:Type}(C:Clo Tryz.prog g w σ)(f:Nat)(hW:WalkC g w C f)(e:Ent)(he:e∈g.lex)
  (k0:Nat) (x:σ) (tr:List (List Int)) (a:List Prt) (s:Nat) (base:List Int) (hI:C.Inv k0 x) (hk:k0+2*zU f<=2^20) (ht:∀ b∈tr,ye b) (hl:a.length+(f+1)=4) (hs:s<8) (hb:base.length<=24) (Gz:ye base) :
  zJ Tryz.prog 296 [.bp 0 0,.d (.agg e.row),.d (zg a),.d (u32 s),.d (ints base)] (zC g w tr (.fn C.fid C.caps) (C.rest x)) C.n
   (.d (.bool (stepS g w (λx a s base=>zY g w C f x a s base) e a s base (x,tr) e.forms.length).2)) C.n
   (zC g w (stepS g w (λx a s base=>zY g w C f x a s base) e a s base (x,tr) e.forms.length).1.2 (.fn C.fid C.caps) (C.rest (stepS g w (λx a s base=>zY g w C f x a s base) e a s base (x,tr) e.forms.length).1.1)) C.mv:=by
 have hr:=C.ok x
 have h2:=hr.two
 have F:0<C.n:=by omega
 have J:¬C.n=0:=by omega
 have L:¬C.n=1:=by omega
 have N:0∉C.mv:=λh=>by have:=(C.mvOk 0 h).1;omega
 have P:C.n∉C.mv:=λh=>by have:=(C.mvOk _ h).2;omega
 have hR:=hg.wA hc
 have hS:=Vu g.lex e.id hR.lex.len hR.lex.senses
 have hL:=K8 e (by have:=hR.lex.alts e he;omega)
 have Fk:e.forms.length<=2:=by have:=(hg.small.forms e he).2.1;simp[Ent.forms];omega
 have hsn:¬(yW g.lex e.id).length=0:=λh=>hg.senses he (List.length_eq_zero_iff.mp h)
 have S:¬((yW g.lex e.id).length:Int)=0:=by omega
 refine xH mixed Tryz.func296 rfl c_296 (by simp[Sym.los,Sym.lo,F]) ?_
 simp+decide[Tryz.f296,zC,zj,Lang.d,int,u32,Ent.row,J,L]
 refine zq (by rfl) (by rfl) hS (by simp[int]) ?_
 simp+decide[int,zT,hsn,S]
 refine zc.pure (by rfl) hL (by simp[Ent.row,int]) ?_
 simp+decide[int,yc]
 refine yg mixed (λk:Nat=>k6 g w C e a s base (stepS g w (λx a s base=>zY g w C f x a s base) e a s base (x,tr) k) k)
  (λk=>k<=e.forms.length/\(stepS g w (λx a s base=>zY g w C f x a s base) e a s base (x,tr) k).2=true/\C.Inv (k0+k*zU f) (stepS g w (λx a s base=>zY g w C f x a s base) e a s base (x,tr) k).1.1/\∀ b∈(stepS g w (λx a s base=>zY g w C f x a s base) e a s base (x,tr) k).1.2,ye b)
  (λk=>e.forms.length-k) 0 ⟨by simp,rfl,by simpa[stepS] using hI,ht⟩ ?_ ?_
 .simp+decide[k6,stepS,zC,int,ints,u32,zj,Lang.d,Ent.row,yc,J,L]
  exact⟨hr.gQ,rfl,⟨F,hr.caps (by omega)⟩,F,Qe hr (Nat.le_refl _) (by omega) rfl⟩
 intro k ⟨Fm,I,A,X⟩
 have G:=C.ok (stepS g w (λx a s base=>zY g w C f x a s base) e a s base (x,tr) k).1.1
 have H:stepS g w (λx a s base=>zY g w C f x a s base) e a s base (x,tr) (k+1)=gV g w (λx a s base=>zY g w C f x a s base) e a s base (stepS g w (λx a s base=>zY g w C f x a s base) e a s base (x,tr) k) k:=by
  unfold stepS;rw[List.range_succ,List.foldl_append];rfl
 by_cases E:k<e.forms.length
 case neg=>
  have:k=e.forms.length:=by omega
  subst this;refine zM mixed ?_
  simp+decide[k6,zC,int,ints,u32,zj,Lang.d,Ent.row,yc,J,L];exact⟨I,G.qg,F,⟨by omega,G.caps (Nat.le_refl _)⟩,by omega,J3 G (Nat.le_refl _) rfl⟩
 have K:(k:Int)<e.forms.length:=by omega
 generalize stepS g w (λx a s base=>zY g w C f x a s base) e a s base (x,tr) k=z at I A X G H
 obtain⟨⟨zx,ztr⟩,zb⟩:=z
 simp only at I A X G
 subst I
 obtain⟨fm,ef⟩:∃ fm,e.forms[k]=fm:=⟨_,rfl⟩
 have ef1:e.forms[k]?=some fm:=by rw[List.getElem?_eq_getElem E,ef]
 unfold gV at H
 simp only[ef1,Option.getD_some,Bool.true_eq_false,if_false] at H
 refine wh mixed 2 (k6 g w C e a s base ((zx,ztr),true) k) rfl ?_ ?_
 .simp+decide[k6,yq,xW,zC,int,ints,u32,zj,Lang.d,Ent.row,yc,J,L,K]
  exact⟨G.gQ,⟨F,G.caps (by omega)⟩,F,Qe G (Nat.le_refl _) (by omega) rfl⟩
 simp only[yO]
 refine Y9 (Xt ?_) mixed
 have Y:C.Inv (k0+(k+1)*zU f) zx:=by
  have:=uz C A (zU f)
  rwa [Nat.add_mul,Nat.one_mul,<-Nat.add_assoc]
 by_cases M:yY g w<(base++fm).length
 .rw[if_pos M] at H
  refine zM mixed ?_
  unfold yY at M;have Fn:((base.length:Int)+fm.length)=((base++fm).length:Int):=by simp
  have F0:fm.length<2^20:=hR.lex.form e he fm (by rw[<-ef];exact List.getElem_mem E)
  rw[List.length_append] at M;cases Q:kG g.rules with
  |true=>
   rw[if_pos Q] at M;have Z:(24:Int)<(base.length:Int)+fm.length:=by omega
   simp+decide[k6,zC,int,ints,u32,zj,Lang.d,Ent.row,yc,J,L,E,K,ef,ef1,Z,Q,I64];refine⟨⟨by omega,by omega⟩,⟨by omega,by omega⟩,k+1,⟨E,by rw[H],by rw[H];exact Y,by rw[H];exact X⟩,by omega,?_⟩
   rw[H];exact⟨G.gQ,by omega,⟨F,G.caps (by omega)⟩,rfl,F,Qe G (Nat.le_refl _) (by omega) rfl⟩
  |false=>
   rw[if_neg (by rw[Q];decide)] at M
   have W:(w.length:Int)<(base.length:Int)+fm.length:=by omega
   by_cases Z:(24:Int)<(base.length:Int)+fm.length
   .simp+decide[k6,zC,int,ints,u32,zj,Lang.d,Ent.row,yc,J,L,E,K,ef,ef1,Z,Q,I64]
    refine⟨⟨by omega,by omega⟩,⟨by omega,by omega⟩,k+1,⟨E,by rw[H],by rw[H];exact Y,by rw[H];exact X⟩,by omega,?_⟩
    rw[H];exact⟨G.gQ,by omega,⟨F,G.caps (by omega)⟩,rfl,F,Qe G (Nat.le_refl _) (by omega) rfl⟩
   .simp+decide[k6,zC,int,ints,u32,zj,Lang.d,Ent.row,yc,J,L,E,K,ef,ef1,Z,W,Q,I64]
    refine⟨⟨by omega,by omega⟩,⟨by omega,by omega⟩,k+1,⟨E,by rw[H],by rw[H];exact Y,by rw[H];exact X⟩,by omega,?_⟩
    rw[H];exact⟨G.gQ,by omega,⟨F,G.caps (by omega)⟩,rfl,F,Qe G (Nat.le_refl _) (by omega) rfl⟩
 rw[if_neg M] at H
 have H0:(base++fm).length<=24:=by
  unfold yY at M;split at M <;> omega
 have Hs:qH (C.n+1) C.caps=C.caps:=ZJ (by omega) (G.caps (Nat.le_refl _))
 have Gm:∀ o',vj (C.n+1) o' (C.rest zx)=C.rest zx:=λo'=>Tz G (by omega) o'
 let S2:St:={n:=78,next:=C.n+2,slots:=[(0,.bp 0 0),(2,.d (zg a)),(3,.d (u32 s)),(4,.d (ints base)),(6,.bp C.n 0),(11,.d (int k)),(14,.ar (C.n+1)),(27,.d (yc e.forms)),(28,.d (int e.forms.length)),(29,.d (int k))],own:=(C.n+1,.arr 3 1 ((base++fm).map λn=>[int n]))::(C.n,.box 102 (e.row.map .d))::zC g w ztr (.fn C.fid C.caps) (C.rest zx),base:=C.n,moved:=(C.n+1)::C.mv}
 refine wh mixed 4 S2 rfl ?_ ?_
 .have Z:¬(24:Int)<(base.length:Int)+fm.length:=by rw[List.length_append] at H0;omega
  have F0:fm.length<2^20:=hR.lex.form e he fm (by rw[<-ef];exact List.getElem_mem E)
  unfold yY at M;rw[List.length_append] at M;cases Q:kG g.rules with
  |true=>
   simp+decide[k6,yq,xW,zC,int,ints,u32,zj,Lang.d,Ent.row,yc,J,L,E,K,ef,ef1,Z,Q,I64,S2,Hs,Gm];exact⟨⟨by omega,by omega⟩,by omega,by unfold maxLen;omega,by omega,by unfold maxLen;omega,G.keys5,G.caps (by omega),BV G (by omega) (Nat.le_refl _) (by omega) rfl⟩
  |false=>
   rw[if_neg (by rw[Q];decide)] at M
   have W:¬(w.length:Int)<(base.length:Int)+fm.length:=by omega
   simp+decide[k6,yq,xW,zC,int,ints,u32,zj,Lang.d,Ent.row,yc,J,L,E,K,ef,ef1,Z,W,Q,I64,S2,Hs,Gm];exact⟨⟨by omega,by omega⟩,by omega,by unfold maxLen;omega,by omega,by unfold maxLen;omega,G.keys5,G.caps (by omega),BV G (by omega) (Nat.le_refl _) (by omega) rfl⟩
 simp only[yO]
 let S3:St:={n:=78,next:=C.n+3,slots:=[(0,.bp 0 0),(2,.d (zg a)),(3,.d (u32 s)),(4,.d (ints base)),(6,.bp C.n 0),(14,.ar (C.n+1)),(15,.ar (C.n+2)),(27,.d (yc e.forms)),(28,.d (int e.forms.length)),(29,.d (int k))],own:=(C.n+2,.arr 96 3 ((a++[(⟨e.id,(k:Int),0⟩:Prt)]).map Prt.row))::(C.n+1,.arr 3 1 ((base++fm).map λn=>[int n]))::(C.n,.box 102 (e.row.map .d))::zC g w ztr (.fn C.fid C.caps) (C.rest zx),base:=C.n,moved:=(C.n+1)::C.mv}
 refine ML S3 ?_ ?_
 .refine uR mixed 9 [] (by rfl) (by rfl) (by rfl) (by rfl) ?_
  simp+decide[S2,S3,xW,zC,int,ints,u32,zj,Lang.d,Ent.row,Prt.row,yc,zg,J,L,I64];refine⟨⟨by omega,by unfold maxLen;omega⟩,⟨by omega,by unfold maxLen;omega⟩,by rfl,?_⟩
  exact⟨G.keys6,G.caps (by omega),TA G (by omega) (by omega) (Nat.le_refl _) (by omega) rfl⟩
 have F1:=G.thawed
 refine Tv C.mv (by intro id hid;simp only[S3,List.mem_cons] at hid ⊢;exact hid.elim (λh=>.inl (by omega)) .inr) ?_
 refine uS [C.n+2,C.n+1] ?_
 refine zM mixed ?_
 simp+decide[S3,zC,int,ints,u32,zj,Lang.d,Ent.row,yc,zg,J,L,I64,F1]
 have Gn:ye (base++fm):=by
  intro y hy;rcases List.mem_append.1 hy with h | h
  .exact Gz y h
  .have hE:=hg.lex.each e he
   have F2:WordF g.inv fm:=by
    have hm:fm∈e.forms:=by rw[<-ef];exact List.getElem_mem E
    rcases List.mem_cons.1 hm with h1 | h1
    .rw[h1];exact hE.form
    .exact hE.alts fm h1
   have:=F2.segs y h
   have Fr:=hg.segs;simp only[yG,Bool.and_eq_true,decide_eq_true_eq] at this;omega
 have Fs:k*zU f<=1*zU f:=Nat.mul_le_mul_right _ (by omega)
 have O:=hW.call (k0+k*zU f) zx ztr (a++[⟨e.id,(k:Int),0⟩]) s (base++fm) A (by omega) X (by simp;omega) hs H0 Gn
 have T:=hW.inv (k0+k*zU f) zx ztr (a++[⟨e.id,(k:Int),0⟩]) s (base++fm) A (by omega) X (by simp;omega) hs H0 Gn
 generalize zY g w C f (zx,ztr) (a++[⟨e.id,(k:Int),0⟩]) s (base++fm)=z2 at O T H
 obtain⟨⟨z2x,z2t⟩,z2b⟩:=z2
 simp only at O T
 have V:=C.ok z2x
 refine J4 C.mvOk (n:=C.n) (s:=.d (.bool z2b)) (caps:=[]) (own0:=zC g w ztr (.fn C.fid C.caps) (C.rest zx)) (own':=zC g w z2t (.fn C.fid C.caps) (C.rest z2x)) (by rfl) (by simp[Sym.los,Sym.lo,F]) (by simp) (gU G) ?_ (jx V) trivial ?_ (by simp[w8,zP,N,P]) (xh.cons (by simp[jd,qa,zP]) (xh.two G)) ?_
 .intro i o hm
  obtain⟨l1,l2⟩:=jx G i o hm;refine⟨l1,l2,?_⟩
  change zh ((C.n,_)::zC g w ztr (.fn C.fid C.caps) (C.rest zx)) i=some o
  simp only[zh];rw[if_neg (by omega)]
  exact ZK G i o hm
 .simpa[zg,ints,int,u32] using O
 have Fd:∀ pre:List (Nat×Obj'),zh (C.rest z2x++pre) C.n=zh pre C.n:=λpre=>UD V (Nat.le_refl _)
 have Go:1<C.n:=by omega
 cases z2b with
 |false=>
  have B:=BW g w (λx a s base=>zY g w C f x a s base) e a s base (x,tr) (k+1) (by rw[H]) (e.forms.length-(k+1))
  rw[show k+1+(e.forms.length-(k+1))=e.forms.length by omega,H] at B
  simp+decide[yR,jw G,F,Go,zC,zj,Lang.d,int,ints,u32,B];exact⟨V.qg,V.caps (Nat.le_refl _),Qf V (Nat.le_refl _) (Nat.le_refl _) rfl⟩
 |true=>
  have H1:¬0=C.n:=by omega
  have Hc:¬1=C.n:=by omega
  simp+decide[yR,jw G,F,Go,zC,k6,J,L,H1,Hc,Fd,zj,Lang.d,int,ints,u32,zg,yc,Ent.row,I64];have Hi:C.Inv (k0+(k+1)*zU f) z2x:=by
   have:=T.1
   rwa [Nat.add_mul,Nat.one_mul,<-Nat.add_assoc]
  refine⟨⟨by omega,by omega⟩,k+1,⟨E,by rw[H],by rw[H];exact Hi,by rw[H];exact T.2⟩,by omega,?_⟩
  rw[H];exact⟨V.gQ,by omega,V.caps (by omega),rfl,Qf V (Nat.le_refl _) (by omega) rfl⟩
end Go.V
namespace Go.V
open Go Go.Proofs
theorem BX{g:Lang}(F:LightF g){e:Ent}(E:e∈g.lex){fm:List Int}(K:fm∈e.forms):ye fm:=by
 intro y h
 have J:=F.lex.each e E
 have H:WordF g.inv fm:=by
  rcases List.mem_cons.1 K with L | L
  .rw[L];exact J.form
  .exact J.alts fm L
 have:=H.segs y h
 have G:=F.segs
 simp only[yG,Bool.and_eq_true,decide_eq_true_eq] at this
 omega
theorem ye.app{a b:List Int}(H:ye a)(G:ye b):ye (a++b):=by
 intro y F
 rcases List.mem_append.1 F with h | h
 .exact H y h
 .exact G y h
theorem BY{g:Lang}(O:LightF g){w:List Int}(Q:w.length<=24){σ:Type}{C:Clo Tryz.prog g w σ}{f:Nat}(T:WalkC g w C f){e:Ent}(V:e∈g.lex)
  {k0:Nat} {x:σ} {tr:List (List Int)} {a:List Prt} {s:Nat} {base:List Int} (X:C.Inv k0 x) (Y:k0+2*zU f<=2^20) (Z:∀ b∈tr,ye b) (A:a.length+(f+1)=4) (hs:s<8) (G:ye base) :
  ∀ k,k<=e.forms.length->C.Inv (k0+k*zU f) (stepS g w (λx a s base=>zY g w C f x a s base) e a s base (x,tr) k).1.1/\∀ b∈(stepS g w (λx a s base=>zY g w C f x a s base) e a s base (x,tr) k).1.2,ye b
 |0,_=>by simpa[stepS] using⟨X,Z⟩
 |k+1,hle=>by
  have ih:=BY O Q T V X Y Z A hs G k (by omega)
  have L:e.forms.length<=2:=by have:=(O.small.forms e V).2.1;simp[Ent.forms];omega
  have H:stepS g w (λx a s base=>zY g w C f x a s base) e a s base (x,tr) (k+1)=gV g w (λx a s base=>zY g w C f x a s base) e a s base (stepS g w (λx a s base=>zY g w C f x a s base) e a s base (x,tr) k) k:=by
   unfold stepS;rw[List.range_succ,List.foldl_append];rfl
  rw[H];generalize stepS g w (λx a s base=>zY g w C f x a s base) e a s base (x,tr) k=z at ih
  obtain⟨⟨zx,zt⟩,zb⟩:=z;simp only at ih
  have F:C.Inv (k0+(k+1)*zU f) zx:=by
   have:=uz C ih.1 (zU f)
   rwa [Nat.add_mul,Nat.one_mul,<-Nat.add_assoc]
  have E:k<e.forms.length:=by omega
  have J:e.forms[k]?.getD []=e.forms[k]:=by rw[List.getElem?_eq_getElem E];rfl
  have M:k*zU f<=1*zU f:=Nat.mul_le_mul_right _ (by omega)
  unfold gV;split
  .exact⟨F,ih.2⟩
  .split
   .exact⟨F,ih.2⟩
   .rename_i K
    have B:(base++e.forms[k]?.getD []).length<=24:=by
     unfold yY at K;split at K <;> omega
    have:=T.inv (k0+k*zU f) zx zt (a++[⟨e.id,(k:Int),0⟩]) s (base++e.forms[k]?.getD []) ih.1 (by omega) ih.2 (by simp;omega) hs B (G.app (by rw[J];exact BX O V (List.getElem_mem E)))
    refine⟨?_,this.2⟩
    have I:=this.1;rwa [Nat.add_mul,Nat.one_mul,<-Nat.add_assoc]
theorem BZ:∀ (a b:Fin 8),(jb .and .u32 (a.val:Int) (b.val:Int))=((a.val &&& b.val:Nat):Int):=by decide +kernel
theorem TC(g:Lang)(A:LightF g)(B:LangC g)(w:List Int)(I:w.length<=24){σ:Type}(C:Clo Tryz.prog g w σ)
  (k0:Nat) (x:σ) (tr:List (List Int)) (a:List Prt) (s:Nat) (base:List Int) (N:C.Inv k0 x) (P:k0+zU 0<=2^20) (S:∀ b∈tr,ye b) (W:a.length+0=4) (hs:s<8) (hb:base.length<=24) (V:ye base) :
  zJ Tryz.prog 288 [.bp 0 0,.d (zg a),.d (u32 s),.d (ints base)] (zC g w tr (.fn C.fid C.caps) (C.rest x)) C.n
   (.d (.bool (zY g w C 0 (x,tr) a s base).2)) C.n (zC g w (zY g w C 0 (x,tr) a s base).1.2 (.fn C.fid C.caps) (C.rest (zY g w C 0 (x,tr) a s base).1.1)) C.mv:=by
 have hr:=C.ok x
 have h2:=hr.two
 have L:0<C.n:=by omega
 have M:1<C.n:=by omega
 have Q:0∉C.mv:=λh=>by have:=(C.mvOk 0 h).1;omega
 have X:=C.mvCaps
 have E:¬C.n=0:=by omega
 have K:¬C.n=1:=by omega
 have H:a.length=4:=by omega
 have Y:=Zn g.net.final 0 (λq hq=>A.v6.ok.2.1 q hq) (by omega)
 have G:=BZ ⟨s,hs⟩ ⟨y6 g.net.final,Y⟩
 simp only at G
 have Z:a≠[]:=by intro h;rw[h] at H;cases H
 unfold zY qq
 refine xH mixed Tryz.func288 rfl c_288 (by simp[Sym.los,Sym.lo,L]) ?_
 by_cases c1:s &&& y6 g.net.final=0
 .rw[if_neg (λh=>h.2.1 c1)]
  simp+decide[Tryz.f288,zC,zj,Lang.d,int,ints,u32,zg,E,K,H,G,c1];exact⟨hr.qg,by omega,⟨by omega,hr.caps (Nat.le_refl _)⟩,by omega,qN hr rfl⟩
 by_cases c2:w.length<=base.length
 case neg=>
  rw[if_neg (λh=>c2 h.2.2)]
  simp+decide[Tryz.f288,zC,zj,Lang.d,int,ints,u32,zg,E,K,H,G,c1,c2];exact⟨hr.qg,by omega,⟨by omega,hr.caps (Nat.le_refl _)⟩,by omega,qN hr rfl⟩
 rw[if_pos ⟨Z,c1,c2⟩]
 have hF:=BN g w tr C.n (.fn C.fid C.caps) (C.rest x) hr A B base hb I V S
 simp+decide[Tryz.f288,zC,zj,Lang.d,int,ints,u32,zg,E,K,H,G,c1,c2]
 refine UC (n:=C.n) (s:=.d (.bool (v7 g w base))) (caps:=[]) (own0:=zC g w tr (.fn C.fid C.caps) (C.rest x)) (own':=zC g w (vv tr base) (.fn C.fid C.caps) (C.rest x)) (by rfl) (by simp[Sym.los,Sym.lo,L]) (by simp) (gU hr) ?_ (jx hr) trivial ?_ ?_
 .intro i o hm
  obtain⟨l1,l2⟩:=jx hr i o hm;refine⟨l1,l2,?_⟩
  change zh (zC g w tr (.fn C.fid C.caps) (C.rest x)) i=some o
  exact ZK hr i o hm
 .simpa[zg,ints,int,u32] using hF
 cases O:v7 g w base with
 |false=>
  simp+decide[yR,jw hr,L,M,zC,zj,Lang.d,int,ints,u32,zg,E,K,H,O];exact⟨hr.qg,hr.caps (Nat.le_refl _),qN hr rfl⟩
 |true=>
  simp+decide[yR,jw hr,L,M,zC,zj,Lang.d,int,ints,u32,zg,E,K,H,O];have J:=C.ok (C.F x a base).1;have T:=(C.call k0 x (vv tr base) a base N (by unfold zU at P;omega) (by omega) hb).1
  generalize C.F x a base=z at T J;obtain⟨zx,zb⟩:=z;simp only at T J
  refine J4 C.mvOk (n:=C.n) (s:=.d (.bool zb)) (caps:=C.caps) (own0:=zC g w (vv tr base) (.fn C.fid C.caps) (C.rest x)) (own':=zC g w (vv tr base) (.fn C.fid C.caps) (C.rest zx)) (by rfl) (by simp[Sym.los,Sym.lo,hr.caps (Nat.le_refl _)]) (by simp) (gU hr) ?_ (jx J) trivial ?_ (by simp[w8,zP,Q,X]) (xh.two hr) ?_
  .intro i o hm
   obtain⟨l1,l2⟩:=jx hr i o hm;refine⟨l1,l2,?_⟩
   change zh (zC g w (vv tr base) (.fn C.fid C.caps) (C.rest x)) i=some o
   exact ZK hr i o hm
  .simpa[zg,ints,int,u32] using T
  cases zb with
  |false=>
   simp+decide[yR,jw hr,L,M,zC,zj,Lang.d,int,ints,u32,zg,E,K,H,O];exact⟨J.qg,hr.caps (Nat.le_refl _),qN J rfl⟩
  |true=>
   simp+decide[yR,jw hr,L,M,zC,zj,Lang.d,int,ints,u32,zg,E,K,H,O];exact⟨J.qg,hr.caps (Nat.le_refl _),qN J rfl⟩
theorem J5{tr:List (List Int)}{base:List Int}(H:∀ b∈tr,ye b)(G:ye base):∀ b∈vv tr base,ye b:=by
 intro b h
 unfold vv at h
 split at h
 .exact H b h
 .rcases List.mem_append.1 h with h | h
  .exact H b h
  .rw[List.mem_singleton.1 h];exact G
theorem E0{g:Lang}{w:List Int}{σ:Type}{C:Clo Tryz.prog g w σ}{k0:Nat}{x:σ}{tr:List (List Int)}{a:List Prt}{s:Nat}{base:List Int}(G:C.Inv k0 x)(F:k0<2^20)(E:∀ b∈tr,ye b)(K:a.length<=4)(J:base.length<=24)(H:ye base):
  C.Inv (k0+1) (qq g w C (x,tr) a s base).1.1/\∀ b∈(qq g w C (x,tr) a s base).1.2,ye b:=by
 unfold qq
 split
 .split
  .exact⟨(C.call k0 x tr a base G F K J).2,J5 E H⟩
  .exact⟨C.mono _ _ G,J5 E H⟩
 .exact⟨C.mono _ _ G,E⟩
theorem TD(g:Lang)(G:LightF g)(F:LangC g)(w:List Int)(E:w.length<=24){σ:Type}(C:Clo Tryz.prog g w σ):WalkC g w C 0 where
 call k x tr a s base K J L M hs O H:=TC g G F w E C k x tr a s base K J L M hs O H
 inv k x tr a s base K J L M hs O H:=by
  have:=E0 (C:=C) (s:=s) (a:=a) K (by unfold zU at J;omega) L (by omega) O H
  unfold zY zU;exact this
theorem E1{g:Lang}(F:LightF g){w:List Int}(E:w.length<=24){σ:Type}{C:Clo Tryz.prog g w σ}{f:Nat}(K:WalkC g w C f){e:Ent}(J:e∈g.lex)
  {k0:Nat} {x:σ} {tr:List (List Int)} {b0:Bool} {a:List Prt} {s:Nat} {base:List Int} (L:C.Inv k0 x) (M:k0+2*zU f<=2^20) (O:∀ b∈tr,ye b) (Q:a.length+(f+1)=4) (hs:ym g.net.steps s e.cls<8) (H:ye base) :
  C.Inv (k0+2*zU f) (xO g w (λx a s base=>zY g w C f x a s base) a s base ((x,tr),b0) e).1.1/\∀ b∈(xO g w (λx a s base=>zY g w C f x a s base) a s base ((x,tr),b0) e).1.2,ye b:=by
 have G:e.forms.length<=2:=by have:=(F.small.forms e J).2.1;simp[Ent.forms];omega
 unfold xO
 split
 .exact⟨uz C L _,O⟩
 split
 .exact⟨uz C L _,O⟩
 have h:=BY F E K J L M O Q hs H e.forms.length (Nat.le_refl _)
 refine⟨?_,h.2⟩
 have T:=uz C h.1 ((2-e.forms.length)*zU f)
 rwa [Nat.add_assoc,<-Nat.add_mul,show e.forms.length+(2-e.forms.length)=2 by omega] at T
theorem E2{g:Lang}(K:LightF g){w:List Int}(J:w.length<=24){σ:Type}{C:Clo Tryz.prog g w σ}{f:Nat}(L:WalkC g w C f){a:List Prt}{s:Nat}{base:List Int}(M:a.length+(f+1)=4)(F:ye base):
  ∀ (l:List Ent),(∀ e∈l,e∈g.lex)->∀ (k0:Nat) (y:qC σ),C.Inv k0 y.1.1->k0+l.length*(2*zU f)<=2^20->(∀ b∈y.1.2,ye b) ->
   C.Inv (k0+l.length*(2*zU f)) (l.foldl (xO g w (λx a s base=>zY g w C f x a s base) a s base) y).1.1/\∀ b∈(l.foldl (xO g w (λx a s base=>zY g w C f x a s base) a s base) y).1.2,ye b
 | [],_,k0,y,O,_,Q=>by simpa using⟨O,Q⟩
 |e::l,T,k0,y,O,V,Q=>by
  have H:=K.v6.ok.1;have E:ym g.net.steps s e.cls<8:=K4 (λq X=>⟨⟨(H q X).1.1,by have:=(H q X).1.2;omega⟩,(H q X).2.1,by have:=(H q X).2.2;omega⟩) s e.cls
  have G:(e::l).length*(2*zU f)=2*zU f+l.length*(2*zU f):=by
   rw[List.length_cons,Nat.add_mul,Nat.one_mul,Nat.add_comm]
  rw[G] at V ⊢;obtain⟨⟨yx,yt⟩,yb⟩:=y;have Y:=E1 K J L (T e (List.mem_cons_self ..)) (b0:=yb) (a:=a) (s:=s) O (by omega) Q M E F
  have Z:=E2 K J L (s:=s) M F l (λe A=>T e (List.mem_cons_of_mem _ A)) (k0+2*zU f) _ Y.1 (by omega) Y.2
  rw[List.foldl_cons,<-Nat.add_assoc];exact Z
theorem TE{g:Lang}(F:LightF g){w:List Int}(E:w.length<=24){σ:Type}{C:Clo Tryz.prog g w σ}{f:Nat}(K:WalkC g w C f)(k:Nat)(x:σ)(tr:List (List Int))(a:List Prt)(s:Nat)(base:List Int)
  (J:C.Inv k x) (L:k+zU (f+1)<=2^20) (M:∀ b∈tr,ye b) (O:a.length+(f+1)=4) (Q:base.length<=24) (H:ye base) :
  C.Inv (k+zU (f+1)) (zY g w C (f+1) (x,tr) a s base).1.1/\∀ b∈(zY g w C (f+1) (x,tr) a s base).1.2,ye b:=by
 have G:zU (f+1)=1+10*zU f:=by rw[zU]
 rw[G] at L ⊢
 have T:=E0 (C:=C) (s:=s) (a:=a) J (by omega) M (by omega) Q H
 have V:g.lex.length*(2*zU f)<=5*(2*zU f):=Nat.mul_le_mul_right _ F.small.few
 unfold zY
 split
 .refine⟨?_,T.2⟩
  have:=uz C T.1 (10*zU f)
  rwa [Nat.add_assoc] at this
 .have h:=E2 F E K (s:=s) O H g.lex (λ_ h=>h) (k+1) ((qq g w C (x,tr) a s base).1,true) T.1 (by omega) T.2
  refine⟨?_,h.2⟩
  have X:=uz C h.1 (10*zU f-g.lex.length*(2*zU f));rwa [show k+1+g.lex.length*(2*zU f)+(10*zU f-g.lex.length*(2*zU f))=k+(1+10*zU f) by omega] at X
theorem E3{g:Lang}{w:List Int}{σ:Type}{wk:σ×List (List Int)->List Prt->Nat->List Int->qC σ}{a:List Prt}{s:Nat}{base:List Int}:
  ∀ (l:List Ent) (y:qC σ),y.2=false->l.foldl (xO g w wk a s base) y=y
 | [],_,_=>rfl
 |e::l,y,h=>by
  have H:xO g w wk a s base y e=y:=by unfold xO;rw[if_pos h]
  rw[List.foldl_cons,H];exact E3 l y h
theorem TF{α β:Type}(F:β->α->β)(y:β)(l:List α)(k:Nat)(h:k<l.length):(l.take (k+1)).foldl F y=F ((l.take k).foldl F y) l[k]:=by
 rw[List.take_succ_eq_append_getElem h,List.foldl_append];rfl
theorem TG{g:Lang}{w:List Int}{σ:Type}{wk:σ×List (List Int)->List Prt->Nat->List Int->qC σ}{a:List Prt}{s:Nat}{base:List Int}(l:List Ent)(y:qC σ)(k:Nat)(h:((l.take k).foldl (xO g w wk a s base) y).2=false):
  l.foldl (xO g w wk a s base) y=(l.take k).foldl (xO g w wk a s base) y:=by
 conv=>lhs;rw[<-List.take_append_drop k l,List.foldl_append]
 exact E3 _ _ h
theorem E4{i:Nat}{o:Obj'}:∀ {l r:List (Nat×Obj')},zh l i=some o->zh (l++r) i=some o
 | [],_,h=>by simp[zh] at h
 |(j,x)::l,r,h=>by
  simp only[List.cons_append,zh] at h ⊢;by_cases c:j=i
  .rw[if_pos c] at h ⊢;exact h
  .rw[if_neg c] at h ⊢;exact E4 h
theorem E5{n:Nat}{fn:Sym}{rest:List (Nat×Obj')}(h:RestOk n fn rest)(pre:List (Nat×Obj')):yR n (rest++pre)=yR n pre:=by
 have key:∀ l:List (Nat×Obj'),(∀ x∈l,x∈rest)->yR n (l++pre)=yR n pre:=by
  intro l;induction l with
  |nil=>intro _;rfl
  |cons x l ih=>
   intro H;obtain⟨i,o⟩:=x;have:=(h.ids i o (H _ (List.mem_cons_self ..))).2.1
   simp only[List.cons_append,yR];rw[if_pos this];exact ih λy G=>H y (List.mem_cons_of_mem _ G)
 exact key rest λ_ hx=>hx
def TJ{g:Lang}{w:List Int}{σ:Type}(C:Clo Tryz.prog g w σ)(k:Nat)(x:σ)(tr:List (List Int))(b:Bool):Prop:=b=true/\C.Inv k x/\∀ b∈tr,ye b
theorem TL(g:Lang)(hg:LightF g)(hc:LangC g)(w:List Int)(hw:w.length<=24){σ:Type}(C:Clo Tryz.prog g w σ)(f:Nat)(hW:WalkC g w C f)
  (k0:Nat) (x:σ) (tr:List (List Int)) (a:List Prt) (s:Nat) (base:List Int) (hI:C.Inv k0 x) (hk:k0+zU (f+1)<=2^20) (ht:∀ b∈tr,ye b) (hl:a.length+(f+1)=4) (hs:s<8) (hb:base.length<=24) (H1:ye base) :
  zJ Tryz.prog 288 [.bp 0 0,.d (zg a),.d (u32 s),.d (ints base)] (zC g w tr (.fn C.fid C.caps) (C.rest x)) C.n
   (.d (.bool (zY g w C (f+1) (x,tr) a s base).2)) C.n (zC g w (zY g w C (f+1) (x,tr) a s base).1.2 (.fn C.fid C.caps) (C.rest (zY g w C (f+1) (x,tr) a s base).1.1)) C.mv:=by
 have hr:=C.ok x
 have h2:=hr.two
 have L:0<C.n:=by omega
 have Q:1<C.n:=by omega
 have Hc:0∉C.mv:=λh=>by have:=(C.mvOk 0 h).1;omega
 have F1:C.n∉C.mv:=λh=>by have:=(C.mvOk _ h).2;omega
 have Eq:=C.mvCaps
 have M:¬C.n=0:=by omega
 have O:¬C.n=1:=by omega
 have Z:¬a.length=4:=by omega
 have E:¬(a.length:Int)=4:=by omega
 have L0:zU (f+1)=1+10*zU f:=by rw[zU]
 have B3:=Zn g.net.final 0 (λq hq=>hg.v6.ok.2.1 q hq) (by omega)
 have X:=BZ ⟨s,hs⟩ ⟨y6 g.net.final,B3⟩
 simp only at X
 unfold zY
 obtain⟨z0,K⟩:∃ z0,qq g w C (x,tr) a s base=z0:=⟨_,rfl⟩
 rw[K]
 obtain⟨⟨x1,tr1⟩,b1⟩:=z0
 refine zaz Tryz.func288 rfl c_288 (by simp[Sym.los,Sym.lo,L]) ?_
 refine zil mixed 3 {n:=79,next:=C.n,slots:=[(0,.bp 0 0),(1,.d (zg a)),(2,.d (u32 s)),(3,.d (ints base))],own:=zC g w tr1 (.fn C.fid C.caps) (C.rest x1),base:=C.n,moved:=C.mv} (TJ C (k0+1) x1 tr1 b1) rfl ?_ ?_
 .by_cases c0:a.length=0
  .have A:¬(0:Int)<(a.length:Int):=by omega
   unfold qq at K;rw[if_neg (λh=>h.1 (List.length_eq_zero_iff.1 c0))] at K
   cases K;simp+decide[Tryz.f288,yq,zC,zj,Lang.d,int,ints,u32,zg,M,O,Z,E,zn,X,c0];exact⟨⟨rfl,C.mono _ _ hI,ht⟩,hr.qg,L,⟨Q,hr.caps (Nat.le_refl _)⟩,Q,qN hr rfl⟩
  have B4:a≠[]:=by intro h;rw[h] at c0;exact c0 rfl
  have A:(0:Int)<(a.length:Int):=by omega
  have T:0<a.length:=by omega
  by_cases c1:s &&& y6 g.net.final=0
  .unfold qq at K
   rw[if_neg (λh=>h.2.1 c1)] at K
   cases K;simp+decide[Tryz.f288,yq,zC,zj,Lang.d,int,ints,u32,zg,M,O,Z,E,zn,X,A,T,c1];exact⟨⟨rfl,C.mono _ _ hI,ht⟩,hr.qg,L,⟨Q,hr.caps (Nat.le_refl _)⟩,Q,qN hr rfl⟩
  by_cases c2:w.length<=base.length
  case neg=>
   unfold qq at K;rw[if_neg (λh=>c2 h.2.2)] at K
   cases K;simp+decide[Tryz.f288,yq,zC,zj,Lang.d,int,ints,u32,zg,M,O,Z,E,zn,X,A,T,c1,c2];exact⟨⟨rfl,C.mono _ _ hI,ht⟩,hr.qg,L,⟨Q,hr.caps (Nat.le_refl _)⟩,Q,qN hr rfl⟩
  unfold qq at K;rw[if_pos ⟨B4,c1,c2⟩] at K;have hF:=BN g w tr C.n (.fn C.fid C.caps) (C.rest x) hr hg hc base hb hw H1 ht;simp+decide[Tryz.f288,yq,zC,zj,Lang.d,int,ints,u32,zg,M,O,Z,E,zn,X,A,T,c1,c2];refine UC (n:=C.n) (s:=.d (.bool (v7 g w base))) (caps:=[]) (own0:=zC g w tr (.fn C.fid C.caps) (C.rest x)) (own':=zC g w (vv tr base) (.fn C.fid C.caps) (C.rest x)) (by rfl) (by simp[Sym.los,Sym.lo,L]) (by simp) (gU hr) ?_ (jx hr) trivial ?_ ?_
  .intro i o hm
   obtain⟨l1,l2⟩:=jx hr i o hm;refine⟨l1,l2,?_⟩
   change zh (zC g w tr (.fn C.fid C.caps) (C.rest x)) i=some o
   exact ZK hr i o hm
  .simpa[zg,ints,int,u32] using hF
  cases W:v7 g w base with
  |false=>
   rw[W,if_neg Bool.false_ne_true] at K;cases K;simp+decide[yR,jw hr,L,Q,zC,zj,Lang.d,int,ints,u32,zg,M,O,Z,E,A,T,zn,W];exact⟨⟨rfl,C.mono _ _ hI,J5 ht H1⟩,hr.qg,hr.caps (Nat.le_refl _),qN hr rfl⟩
  |true=>
   rw[W,if_pos rfl] at K;simp+decide[yR,jw hr,L,Q,zC,zj,Lang.d,int,ints,u32,zg,M,O,Z,E,A,T,zn,W];have B:=C.ok (C.F x a base).1;have F2:=(C.call k0 x (vv tr base) a base hI (by unfold zU at hk;omega) (by omega) hb).1
   have Fd:=(C.call k0 x (vv tr base) a base hI (by unfold zU at hk;omega) (by omega) hb).2
   generalize C.F x a base=z at F2 B Fd K;obtain⟨zx,zb⟩:=z;cases K;simp only at F2 B Fd
   refine J4 C.mvOk (n:=C.n) (s:=.d (.bool zb)) (caps:=C.caps) (own0:=zC g w (vv tr base) (.fn C.fid C.caps) (C.rest x)) (own':=zC g w (vv tr base) (.fn C.fid C.caps) (C.rest zx)) (by rfl) (by simp[Sym.los,Sym.lo,hr.caps (Nat.le_refl _)]) (by simp) (gU hr) ?_ (jx B) trivial ?_ (by simp[w8,zP,Hc,Eq]) (xh.two hr) ?_
   .intro i o hm
    obtain⟨l1,l2⟩:=jx hr i o hm;refine⟨l1,l2,?_⟩
    change zh (zC g w (vv tr base) (.fn C.fid C.caps) (C.rest x)) i=some o
    exact ZK hr i o hm
   .simpa[zg,ints,int,u32] using F2
   cases zb with
   |false=>
    simp+decide[yR,jw hr,L,Q,zC,zj,Lang.d,int,ints,u32,zg,M,O,Z,E,A,T,zn,W];exact⟨B.qg,hr.caps (Nat.le_refl _),qN B rfl⟩
   |true=>
    simp+decide[yR,jw hr,L,Q,zC,zj,Lang.d,int,ints,u32,zg,M,O,Z,E,A,T,zn,W];exact⟨⟨rfl,Fd,J5 ht H1⟩,B.qg,B.caps (Nat.le_refl _),qN B rfl⟩
 rintro⟨rfl,Bk,Bx⟩
 simp only[yO,Bool.true_eq_false,if_false]
 refine zM mixed ?_
 simp+decide[zC,zj,Lang.d,int,ints,u32,zg,M,O,zn]
 have Fk:=C.ok x1
 refine yg mixed (λk:Nat=>{n:=79,next:=C.n,slots:=[(0,.bp 0 0),(1,.d (zg a)),(2,.d (u32 s)),(3,.d (ints base)),(56,.d (zn g.lex)),(57,.d (int g.lex.length)),(58,.d (int k))],own:=zC g w ((g.lex.take k).foldl (xO g w (λx a s base=>zY g w C f x a s base) a s base) ((x1,tr1),true)).1.2 (.fn C.fid C.caps) (C.rest ((g.lex.take k).foldl (xO g w (λx a s base=>zY g w C f x a s base) a s base) ((x1,tr1),true)).1.1),base:=C.n,moved:=C.mv})
  (λk=>k<=g.lex.length/\((g.lex.take k).foldl (xO g w (λx a s base=>zY g w C f x a s base) a s base) ((x1,tr1),true)).2=true/\C.Inv (k0+1+k*(2*zU f)) ((g.lex.take k).foldl (xO g w (λx a s base=>zY g w C f x a s base) a s base) ((x1,tr1),true)).1.1/\∀ b∈((g.lex.take k).foldl (xO g w (λx a s base=>zY g w C f x a s base) a s base) ((x1,tr1),true)).1.2,ye b) (λk=>g.lex.length-k) 0 ⟨by simp,rfl,by simpa using Bk,Bx⟩ ?_ ?_
 .simp+decide[zC,int,ints,u32,zj,Lang.d,zg,zn,M,O]
  exact⟨Fk.qg,by omega,⟨by omega,Fk.caps (Nat.le_refl _)⟩,by omega,qN Fk rfl⟩
 intro k ⟨L1,Hi,Hs,Gm⟩
 have G:=TF (xO g w (λx a s base=>zY g w C f x a s base) a s base) ((x1,tr1),true) g.lex k
 have Gn:=TG (wk:=(λx a s base=>zY g w C f x a s base)) (g:=g) (w:=w) (a:=a) (s:=s) (base:=base) g.lex ((x1,tr1),true) (k+1)
 by_cases H0:k<g.lex.length
 case neg=>
  have D0:k=g.lex.length:=by omega
  have N:¬(k:Int)<(g.lex.length:Int):=by omega
  have Fm:g.lex.take k=g.lex:=by rw[D0,List.take_length]
  rw[Fm] at Hi ⊢;have H:=C.ok (g.lex.foldl (xO g w (λx a s base=>zY g w C f x a s base) a s base) ((x1,tr1),true)).1.1
  have Jy:¬g.lex.length<g.lex.length:=by omega
  subst D0;refine zM mixed ?_
  simp+decide[zC,int,ints,u32,zj,Lang.d,zg,zn,M,O];exact⟨Hi,H.qg,by omega,⟨by omega,H.caps (Nat.le_refl _)⟩,by omega,qN H rfl⟩
 have G:=G H0
 have N:(k:Int)<g.lex.length:=by omega
 have H:=C.ok ((g.lex.take k).foldl (xO g w (λx a s base=>zY g w C f x a s base) a s base) ((x1,tr1),true)).1.1
 generalize (g.lex.take k).foldl (xO g w (λx a s base=>zY g w C f x a s base) a s base) ((x1,tr1),true)=z at Hi Hs Gm H G
 obtain⟨⟨zx,ztr⟩,zb⟩:=z
 simp only at Hi Hs Gm H
 subst Hi
 have he:g.lex[k]∈g.lex:=List.getElem_mem H0
 obtain⟨e,ee⟩:∃ e,g.lex[k]=e:=⟨_,rfl⟩
 have ee1:g.lex[k]?=some e:=by rw[List.getElem?_eq_getElem H0,ee]
 rw[ee] at he G
 have Go:∀ y1,xO g w (λx a s base=>zY g w C f x a s base) a s base (y1,true) e=if ym g.net.steps s e.cls=0 then (y1,true) else stepS g w (λx a s base=>zY g w C f x a s base) e a (ym g.net.steps s e.cls) base y1 e.forms.length:=λy1=>by
  unfold xO;simp only[Bool.true_eq_false,if_false]
 rw[Go] at G
 refine wh mixed 2 {n:=79,next:=C.n,slots:=[(0,.bp 0 0),(1,.d (zg a)),(2,.d (u32 s)),(3,.d (ints base)),(56,.d (zn g.lex)),(57,.d (int g.lex.length)),(58,.d (int k))],own:=zC g w ztr (.fn C.fid C.caps) (C.rest zx),base:=C.n,moved:=C.mv} rfl ?_ ?_
 .simp+decide[yq,xW,zC,int,ints,u32,zj,Lang.d,zg,zn,M,O,N]
  exact⟨H.qg,by omega,⟨by omega,H.caps (Nat.le_refl _)⟩,by omega,qN H rfl⟩
 simp only[yO]
 refine Y9 (Xt ?_) mixed
 refine zM mixed ?_
 simp+decide[zC,int,ints,u32,zj,Lang.d,zg,zn,Ent.row,M,O,H0,N,ee,ee1,I64]
 have Gz:=Ts g w ztr C.n (.fn C.fid C.caps) (C.rest zx) H hg s hs e.cls
 refine UC (n:=C.n) (s:=.d (u32 (ym g.net.steps s e.cls))) (caps:=[]) (own0:=zC g w ztr (.fn C.fid C.caps) (C.rest zx)) (own':=zC g w ztr (.fn C.fid C.caps) (C.rest zx)) (by rfl) (by simp[Sym.los,Sym.lo,L]) (by simp) (gU H) ?_ (jx H) trivial ?_ ?_
 .intro i o hm
  obtain⟨l1,l2⟩:=jx H i o hm;refine⟨l1,l2,?_⟩
  change zh ((C.n,_)::zC g w ztr (.fn C.fid C.caps) (C.rest zx)) i=some o
  simp only[zh];rw[if_neg (by omega)]
  exact ZK H i o hm
 .simpa[zg,ints,int,u32] using Gz
 have F0:∀ pre:List (Nat×Obj'),zh (C.rest zx++pre) C.n=zh pre C.n:=λpre=>UD H (Nat.le_refl _)
 have P:¬0=C.n:=by omega
 have S:¬1=C.n:=by omega
 by_cases hz:ym g.net.steps s e.cls=0
 .rw[if_pos hz] at G
  simp+decide[yR,jw H,L,Q,zC,M,O,P,S,F0,zj,Lang.d,int,ints,u32,zg,zn,Ent.row,hz,I64];have Fn:C.Inv (k0+1+(k+1)*(2*zU f)) zx:=by
   have:=uz C Hs (2*zU f)
   rwa [Nat.add_mul,Nat.one_mul,<-Nat.add_assoc]
  have Fr:=hg.small.few;refine⟨⟨by omega,by omega⟩,k+1,⟨H0,by rw[G],by rw[G];exact Fn,by rw[G];exact Gm⟩,by omega,?_⟩
  rw[G];exact⟨H.qg,by omega,H.caps (Nat.le_refl _),rfl,Qf H (Nat.le_refl _) (Nat.le_refl _) rfl⟩
 rw[if_neg hz] at G
 simp+decide[yR,jw H,L,Q,zC,M,O,P,S,F0,zj,Lang.d,int,ints,u32,zg,zn,Ent.row,hz,I64]
 have L2:(k+1)*(2*zU f)<=5*(2*zU f):=Nat.mul_le_mul_right _ (by have:=hg.small.few;omega)
 have K1:(k+1)*(2*zU f)=k*(2*zU f)+2*zU f:=by rw[Nat.add_mul,Nat.one_mul]
 have D4:ym g.net.steps s e.cls<8:=by
  have Y:=hg.v6.ok.1;exact K4 (λq hq=>⟨⟨(Y q hq).1.1,by have:=(Y q hq).1.2;omega⟩,(Y q hq).2.1,by have:=(Y q hq).2.2;omega⟩) s e.cls
 have V:=TB g hg hc w hw C f hW e he (k0+1+k*(2*zU f)) zx ztr a (ym g.net.steps s e.cls) base Hs (by omega) Gm hl D4 hb H1
 have J:=E1 hg hw hW he (b0:=true) (a:=a) (s:=s) Hs (by omega) Gm hl D4 H1
 rw[Go,if_neg hz] at J
 generalize stepS g w (λx a s base=>zY g w C f x a s base) e a (ym g.net.steps s e.cls) base (zx,ztr) e.forms.length=z2 at V J G
 obtain⟨⟨z2x,z2t⟩,z2b⟩:=z2
 simp only at V J
 have I:=C.ok z2x
 have Fs:∀ pre:List (Nat×Obj'),zh (C.rest z2x++pre) C.n=zh pre C.n:=λpre=>UD I (Nat.le_refl _)
 refine J4 C.mvOk (n:=C.n) (s:=.d (.bool z2b)) (caps:=[]) (own0:=zC g w ztr (.fn C.fid C.caps) (C.rest zx)) (own':=zC g w z2t (.fn C.fid C.caps) (C.rest z2x)) (by rfl) (by simp[Sym.los,Sym.lo,L]) (by simp) (gU H) ?_ (jx I) trivial ?_ (by simp[w8,zP,Hc,F1,Eq]) (xh.under L (xh.under Q (xh.app (xh.rest H) (xh.cons (by simp[jd,qa,zP]) xh.nil)))) ?_
 .intro i o hm
  obtain⟨l1,l2⟩:=jx H i o hm;refine⟨l1,l2,?_⟩
  change zh (zC g w ztr (.fn C.fid C.caps) (C.rest zx)++[(C.n,_)]) i=some o
  exact E4 (ZK H i o hm)
 .simpa[zg,ints,int,u32,Ent.row] using V
 cases z2b with
 |false=>
  have B1:=Gn (by rw[G])
  rw[G] at B1;simp+decide[yR,jw H,E5 H,L,Q,zC,zj,Lang.d,int,ints,u32,zn,B1];exact⟨I.qg,I.caps (Nat.le_refl _),Qf I (Nat.le_refl _) (Nat.le_refl _) rfl⟩
 |true=>
  simp+decide[yR,jw H,E5 H,L,Q,zC,zj,Lang.d,int,ints,u32,zg,zn,Ent.row,M,O,P,S,Fs,I64];have Fn:C.Inv (k0+1+(k+1)*(2*zU f)) z2x:=by
   have:=J.1
   rwa [K1,<-Nat.add_assoc]
  have Fr:=hg.small.few;refine⟨⟨by omega,by omega⟩,k+1,⟨H0,by rw[G],by rw[G];exact Fn,by rw[G];exact J.2⟩,by omega,?_⟩
  rw[G];exact⟨I.qg,by omega,I.caps (Nat.le_refl _),rfl,Qf I (Nat.le_refl _) (Nat.le_refl _) rfl⟩
end Go.V
namespace Go.V
open Go Go.Proofs
theorem E6(g:Lang)(G:LightF g)(F:LangC g)(w:List Int)(E:w.length<=24){σ:Type}(C:Clo Tryz.prog g w σ):∀ f,WalkC g w C f
 |0=>TD g G F w E C
 |f+1=>by
  have ih:=E6 g G F w E C f;exact {call:=λk x tr a s base K J L M hs O H=>TL g G F w E C f ih k x tr a s base K J L M hs O H,inv:=λk x tr a s base K J L M _ O H=>TE G E ih k x tr a s base K J L M O H}
section
variable {σ:Type}
def sF(F:σ->List Prt->List Int->σ×Bool):σ×Bool->List (List Prt×List Int)->σ×Bool
 |z,[]=>z
 |z,(p,b)::r=>if z.2=false then z else sF F (F z.1 p b) r
theorem J6{F:σ->List Prt->List Int->σ×Bool}{z:σ×Bool}(h:z.2=false):∀ l,sF F z l=z
 | []=>rfl
 |(p,b)::r=>by unfold sF;rw[if_pos h]
theorem J7{F:σ->List Prt->List Int->σ×Bool}(z:σ×Bool)(p:List Prt)(b:List Int)(r:List (List Prt×List Int)):sF F z ((p,b)::r)=if z.2=false then z else sF F (F z.1 p b) r:=rfl
theorem UE{F:σ->List Prt->List Int->σ×Bool}:∀ (z:σ×Bool) (l r:List (List Prt×List Int)),sF F z (l++r)=sF F (sF F z l) r
 |z,[],r=>rfl
 |z,(p,b)::l,r=>by
  rw[List.cons_append,J7,J7];by_cases h:z.2=false
  .rw[if_pos h,if_pos h]
   exact(J6 h r).symm
  .rw[if_neg h,if_neg h]
   exact UE _ l r
theorem UF{F:σ->List Prt->List Int->σ×Bool}{α β:Type}{pr:β->σ×Bool}{G:β->α->β}{T:α->List (List Prt×List Int)}:∀ (l:List α) (y:β),(∀ y,∀ e∈l,pr (G y e)=sF F (pr y) (T e))->pr (l.foldl G y)=sF F (pr y) (l.flatMap T)
 | [],y,_=>rfl
 |e::l,y,h=>by
  rw[List.foldl_cons,List.flatMap_cons,UE,<-h y e (List.mem_cons_self ..)];exact UF l _ λy e H=>h y e (List.mem_cons_of_mem _ H)
variable {P:Program} (g:Lang) (w:List Int) (C:Clo P g w σ)
def vw(z:qC σ):σ×Bool:=(z.1.1,z.2)
def Qg(a:List Prt)(s:Nat)(base:List Int):List (List Prt×List Int):=
 if a≠[]/\s &&& y6 g.net.final≠0/\w.length<=base.length/\v7 g w base=true then [(a,base)] else []
theorem E7(x:σ×List (List Int))(a:List Prt)(s:Nat)(base:List Int):vw (qq g w C x a s base)=sF C.F (x.1,true) (Qg g w a s base):=by
 unfold qq Qg
 by_cases h:a≠[]/\s &&& y6 g.net.final≠0/\w.length<=base.length
 .rw[if_pos h]
  by_cases H:v7 g w base=true
  .rw[if_pos H,if_pos ⟨h.1,h.2.1,h.2.2,H⟩];simp[sF,vw]
  .rw[if_neg H,if_neg (λh'=>H h'.2.2.2)];rfl
 .rw[if_neg h,if_neg (λh'=>h ⟨h'.1,h'.2.1,h'.2.2.1⟩)];rfl
theorem E8:∀ (f:Nat) (x:σ×List (List Int)) (a:List Prt) (s:Nat) (base:List Int),vw (zY g w C f x a s base)=sF C.F (x.1,true) (Qg g w a s base++walkT g w f a s base)
 |0,x,a,s,base=>by
  unfold zY walkT;rw[List.append_nil,E7]
 |f+1,x,a,s,base=>by
  rw[UE,<-E7 g w C];unfold zY;by_cases h:(qq g w C x a s base).2=false
  .rw[if_pos h,J6 (z:=vw (qq g w C x a s base)) h]
  rw[if_neg h];have K:(qq g w C x a s base).2=true:=by simpa using h
  have e0:vw (qq g w C x a s base)=vw (((qq g w C x a s base).1,true):qC σ):=by unfold vw;rw[K]
  rw[e0];unfold walkT;refine UF (F:=C.F) (pr:=vw) g.lex _ λy e he=>?_
  unfold xO;by_cases J:y.2=false
  .rw[if_pos J]
   exact(J6 (z:=vw y) J _).symm
  rw[if_neg J];by_cases L:ym g.net.steps s e.cls=0
  .rw[if_pos L,if_neg (λh=>h L)];rfl
  rw[if_neg L,if_pos L];have G:y.2=true:=by simpa using J
  have e1:vw y=vw ((y.1,true):qC σ):=by unfold vw;rw[G]
  rw[e1];unfold stepS;refine UF (F:=C.F) (pr:=vw) _ _ λz alt ha=>?_
  unfold gV;by_cases H:z.2=false
  .rw[if_pos H]
   exact(J6 (z:=vw z) H _).symm
  rw[if_neg H];split
  .rfl
  have E:z.2=true:=by simpa using H
  have e2:vw z=(z.1.1,true):=by unfold vw;rw[E]
  rw[e2,E8 f];unfold Qg;have:(a++[(⟨e.id,(alt:Int),0⟩:Prt)])≠[]:=by simp
  simp only[this,ne_eq,not_false_eq_true,true_and]
end
def yF(g:Lang)(w:List Int):List (List Prt):=if w.length=0\/24<w.length then [] else xy g w 4 []
theorem TM{g:Lang}(H:LightF g){w:List Int}(G:¬w.length=0)(E:w.length<=24){σ:Type}{P:Program}(C:Clo P g w σ)(x:σ):
  vw (zY g w C 4 (x,[]) [] 1 [])=sF C.F (x,true) ((yF g w).map λb=>(b,zL g.lex b)):=by
 rw[E8]
 have h:=BJ H E 4 [] rfl (λp K=>by cases K)
 have e1:yh g.net.steps (yi g.lex [])=1:=rfl
 have e2:zL g.lex []=[]:=rfl
 rw[e1,e2] at h
 unfold yF
 rw[if_neg (by omega),<-h]
 unfold Qg
 rw[if_neg (λh=>h.1 rfl),List.nil_append]
end Go.V
namespace Go.V
open Go Go.Proofs
theorem E9{w:World}{E:Nat->Prop}{β:Nat->Value}{j:Nat}(hj:β j = .slice none 0 0):∀ {l:List Sym} {i:Nat} {vs:List Value},l[i]?=some .nils->zl w E β l vs->zl w E β (l.set i (.ar j)) vs
 | [],i,vs,hi,_=>by simp at hi
 |s::r,0,vs,hi,h=>by
  simp at hi;subst hi
  simp only[zl,List.set_cons_zero] at h ⊢;obtain⟨v,vs',rfl,H,G⟩:=h;refine⟨v,vs',rfl,?_,G⟩
  simp only[Sm] at H ⊢;rw[H,hj]
 |s::r,i+1,vs,hi,h=>by
  simp only[zl,List.set_cons_succ] at h ⊢;obtain⟨v,vs',rfl,H,G⟩:=h;exact⟨v,vs',rfl,H,E9 hj (by simpa using hi) G⟩
theorem Ea{m:Nat}{s:Sym}(hs:Sym.lo m s):∀ {l:List Sym} {i:Nat},Sym.los m l->Sym.los m (l.set i s)
 | [],i,h=>by simp
 |x::r,0,h=>by simp only[List.set_cons_zero,Sym.los] at h ⊢;exact⟨hs,h.2⟩
 |x::r,i+1,h=>by simp only[List.set_cons_succ,Sym.los] at h ⊢;exact⟨h.1,Ea hs h.2⟩
theorem TN{P:Program}{st:St}{Q:DE->St->Prop}{c:Code}(id i e sz:Nat){T:Nat}{l:List Sym}(K:st.look id=some (.box T l))(hi:l[i]?=some .nils)
  (h:Triple P c Q ((st.new (.arr e sz [])).set id (.box T (l.set i (.ar st.next))))):Triple P c Q st:=by
 intro X w0 β a w J
 have H:=J.QE e sz
 have E:=(J.obj K).1
 have G:(st.new (.arr e sz [])).look id=some (.box T l):=by
  show zh ((st.next,_)::st.own) id=_
  simp only[zh];rw[if_neg (by omega)]
  exact K
 obtain⟨_,F,b,vs,L,M,O,V,Y⟩:=H.obj G
 refine h X w0 _ a w (H.update G (b:=b) (w':=w) (by simp only at L;rw[L];rfl) M (λ_ _=>rfl) rfl rfl rfl rfl (jT.refl _) ?_ ⟨b,vs,L,M,O,E9 (by simp) hi V,Y⟩)
 exact Ea (by simp[Sym.lo,St.new]) F
theorem zJ.args{P:Program}{f:Nat}{args args':List Sym}{own:List (Nat×Obj')}{n:Nat}{s:Sym}{nx:Nat}{own':List (Nat×Obj')}{mv:List Nat}
  (H:∀ (w:World) (E:Nat->Prop) (β:Nat->Value) (vs:List Value),zl w E β args' vs->zl w E β args vs) (h:zJ P f args own n s nx own' mv):zJ P f args' own n s nx own' mv:=
 ⟨h.1,λX w0 β w vs hβ G hs=>h.2 X w0 β w vs hβ G (H _ _ _ _ hs)⟩
theorem UG{w:World}{E:Nat->Prop}{β:Nat->Value}{v:Value}(h:Sm w E β .nils v):Sm w E β (.d (.sl [])) v:=by
 simp only[Sm] at h ⊢
 rw[h]
 simp only[R];exact⟨none,0,rfl,by simp,Nat.zero_le _,λ_=>rfl,λh=>absurd rfl h⟩
theorem walk_nil{P:Program}{f:Nat}{a s:Sym}{own:List (Nat×Obj')}{n:Nat}{r:Sym}{nx:Nat}{own':List (Nat×Obj')}{mv:List Nat}
  (h:zJ P f [a,.d (zg []),s,.d (ints [])] own n r nx own' mv):zJ P f [a,.nils,s,.nils] own n r nx own' mv:=by
 refine h.args λw E β vs hs=>?_
 simp only[zl] at hs ⊢
 obtain⟨v1,_,rfl,H,v2,_,rfl,G,v3,_,rfl,F,v4,_,rfl,K,rfl⟩:=hs
 exact⟨v1,_,rfl,H,v2,_,rfl,UG G,v3,_,rfl,F,v4,_,rfl,UG K,rfl⟩
def vQ:List Int->Int
 | []=>0
 |x::r=>if x=0 then vQ r else x
theorem TP{l:List Int}{k:Nat}(h:k<l.length):vQ (l.drop k)=if l[k]=0 then vQ (l.drop (k+1)) else l[k]:=by
 rw[List.drop_eq_getElem_cons h];rfl
theorem Ks(l:List Int)(F:l.length<2^40):zi Tryz.prog 166 [ints l] (int (vQ l)):=by
 refine zp mixed Tryz.func166 rfl c_166 ?_
 simp+decide[Tryz.f166,int,ints]
 refine zr mixed (λk:Nat=>{n:=18,next:=0,slots:=[(3,.d (int 0)),(6,.d (ints l)),(7,.d (int l.length)),(8,.d (int k))],own:=[]})
  (λk=>k<=l.length/\vQ (l.drop k)=vQ l) (λk=>l.length-k) 0 (by simp) (by simp+decide[int,ints]) ?_
 intro k ⟨E,K⟩
 by_cases H:k<l.length
 case neg=>
  have:k=l.length:=by omega
  subst this;rw[List.drop_length] at K;simp+decide[int,ints,<-K,vQ]
 have G:(k:Int)<l.length:=by omega
 rw[TP H] at K
 obtain⟨x,ex⟩:∃ x,l[k]=x:=⟨_,rfl⟩
 have e1:l[k]?=some x:=by rw[List.getElem?_eq_getElem H,ex]
 rw[ex] at K
 by_cases J:x=0
 .rw[if_pos J] at K
  simp+decide[int,ints,H,G,e1,ex,J,I64];exact⟨⟨by omega,by omega⟩,k+1,⟨H,K⟩,by omega,by omega⟩
 .rw[if_neg J] at K
  simp+decide[int,ints,H,G,e1,ex,J,I64,<-K]
def k7(a b:Prt):Int:=vQ [xq a.entry b.entry,xq a.alt b.alt,xq a.sense b.sense]
theorem ZL{a b:Int}:xq a b=0↔a=b:=by unfold xq;split;omega;split <;> omega
theorem UH{a b:Int}:xq a b<0↔a<b:=by unfold xq;split;omega;split <;> omega
theorem Eb{a b:Prt}:k7 a b=0↔a=b:=by
 unfold k7 vQ vQ vQ vQ
 constructor
 .intro h
  split at h
  .rename_i H
   split at h
   .rename_i G
    split at h
    .rename_i h3
     obtain⟨a1,a2,a3⟩:=a;obtain⟨b1,b2,b3⟩:=b;rw[ZL] at H G h3;simp only at H G h3
     rw[H,G,h3]
    .contradiction
   .contradiction
  .contradiction
 .intro h
  subst h;simp[xq]
theorem TQ{a b:Prt}:decide (k7 a b<0)=xB a b:=by
 unfold k7 vQ vQ vQ vQ xB
 by_cases H:a.entry=b.entry
 .rw[if_pos (ZL.2 H),if_pos H]
  by_cases G:a.alt=b.alt
  .rw[if_pos (ZL.2 G),if_pos G]
   by_cases F:a.sense=b.sense
   .rw[if_pos (ZL.2 F)];simp[F]
   .rw[if_neg (λh=>F (ZL.1 h))];simp[UH]
  .rw[if_neg (λh=>G (ZL.1 h)),if_neg G];simp[UH]
 .rw[if_neg (λh=>H (ZL.1 h)),if_neg H];simp[UH]
theorem TR(a b:Prt):zi Tryz.prog 286 [.agg a.row,.agg b.row] (int (k7 a b)):=by
 have H:=uZ a.entry b.entry
 have G:=uZ a.alt b.alt
 have F:=uZ a.sense b.sense
 have E:=Ks [xq a.entry b.entry,xq a.alt b.alt,xq a.sense b.sense] (by simp)
 refine zp mixed Tryz.func286 rfl c_286 ?_
 simp+decide[Tryz.f286,int,Prt.row]
 refine zq (by rfl) (by rfl) H (by simp[int]) ?_
 simp+decide[int,Prt.row]
 refine zq (by rfl) (by rfl) G (by simp[int]) ?_
 simp+decide[int,Prt.row]
 refine zq (by rfl) (by rfl) F (by simp[int]) ?_
 simp+decide[int,Prt.row]
 refine zq (by rfl) (by rfl) E (by simp[int,ints]) ?_
 simp+decide[int,Prt.row,k7]
def k9:List Prt->List Prt->Int
 | [],[]=>0
 | [],_::_=>-1
 |_::_,[]=>1
 |a::l,b::m=>if k7 a b=0 then k9 l m else k7 a b
theorem Ec:∀ {a b:List Prt},decide (k9 a b<0)=zN a b
 | [],[]=>rfl
 | [],_::_=>rfl
 |_::_,[]=>rfl
 |a::l,b::m=>by
  unfold k9 zN;by_cases h:a=b
  .rw[if_pos (Eb.2 h),if_pos h];exact Ec
  .rw[if_neg (λH=>h (Eb.1 H)),if_neg h];exact TQ
theorem TS{a b:List Prt}{k:Nat}(h:k<a.length)(H:k<b.length):k9 (a.drop k) (b.drop k)=if k7 a[k] b[k]=0 then k9 (a.drop (k+1)) (b.drop (k+1)) else k7 a[k] b[k]:=by
 rw[List.drop_eq_getElem_cons h,List.drop_eq_getElem_cons H];rfl
theorem TU(a b:List Prt)(M:a.length<2^40)(O:b.length<2^40):
  zi Tryz.prog 285 [zg a,zg b,.fn 286 []] (int (k9 a b)):=by
 refine zp mixed Tryz.func285 rfl c_285 ?_
 simp+decide[Tryz.f285,int,zg]
 refine zr mixed (λk:Nat=>{n:=39,next:=0,slots:=[(0,.d (zg a)),(1,.d (zg b)),(2,.d (.fn 286 [])),(11,.d (zg a)),(12,.d (int a.length)),(13,.d (int k))],own:=[]})
  (λk=>k<=a.length/\k<=b.length/\k9 (a.drop k) (b.drop k)=k9 a b) (λk=>a.length-k) 0 (by simp) (by simp+decide[int,zg]) ?_
 intro k ⟨Q,L,T⟩
 by_cases G:k<a.length
 case neg=>
  have:k=a.length:=by omega
  subst this;rw[List.drop_length] at T;by_cases J:a.length<b.length
  .have K:(a.length:Int)<b.length:=by omega
   rw[List.drop_eq_getElem_cons J] at T;simp+decide[int,zg,K,<-T,k9]
  .have K:¬(a.length:Int)<b.length:=by omega
   rw[show a.length=b.length by omega,List.drop_length] at T
   simp+decide[int,zg,K,<-T,k9]
 have F:(k:Int)<a.length:=by omega
 obtain⟨x,ex⟩:∃ x,a[k]=x:=⟨_,rfl⟩
 have e1:a[k]?=some x:=by rw[List.getElem?_eq_getElem G,ex]
 by_cases E:k<b.length
 case neg=>
  have H:(b.length:Int)<=k:=by omega
  have:b.drop k=[]:=List.drop_eq_nil_of_le (by omega)
  rw[this,List.drop_eq_getElem_cons G] at T;simp+decide[int,zg,Prt.row,G,F,e1,ex,H,<-T,k9,I64]
 have H:¬(b.length:Int)<=k:=by omega
 obtain⟨y,ey⟩:∃ y,b[k]=y:=⟨_,rfl⟩
 have e2:b[k]?=some y:=by rw[List.getElem?_eq_getElem E,ey]
 rw[TS G E,ex,ey] at T
 simp+decide[int,zg,Prt.row,G,F,E,e1,ex,e2,ey,H,I64]
 refine zc.pure (by rfl) (TR x y) (by simp[Prt.row,int]) ?_
 by_cases V:k7 x y=0
 .rw[if_pos V] at T
  simp+decide[int,zg,Prt.row,V,I64];exact⟨⟨by omega,by omega⟩,k+1,⟨G,E,T⟩,by omega,by omega⟩
 .rw[if_neg V] at T
  simp+decide[int,zg,Prt.row,V,I64,<-T]
theorem TV(a b:List Prt)(H:a.length<2^40)(G:b.length<2^40):zi Tryz.prog 270 [zu a,zu b] (.bool (zN a b)):=by
 refine zp mixed Tryz.func270 rfl c_270 ?_
 simp+decide[Tryz.f270,zu,zg]
 refine zc.pure (by rfl) (TU a b H G) (by simp[zg,int]) ?_
 simp+decide[int]
 exact Ec
theorem TW(inv:List Phon)(s:Int):zi Tryz.prog 283 [int s,.ptr [zH inv]] (.bool (!yG inv s)):=by
 refine zp mixed Tryz.func283 rfl c_283 ?_
 simp+decide[Tryz.f283,int]
 refine zc.pure (by rfl) (FZ inv s) (by simp[zH,int]) ?_
 simp+decide[int]
def qD(inv:List Phon)(w:List Int):Int:=match w.findIdx? (λs=>!yG inv s) with
 |some k=>k
 |none=>-1
theorem TX(inv:List Phon)(w:List Int)(F:w.length<2^40):zi Tryz.prog 292 [ints w,.fn 283 [.ptr [zH inv]]] (int (qD inv w)):=by
 refine zp mixed Tryz.func292 rfl c_292 ?_
 simp+decide[Tryz.f292,ints]
 refine zr mixed (λk:Nat=>{n:=19,next:=0,slots:=[(0,.d (ints w)),(1,.d (.fn 283 [.ptr [zH inv]])),(6,.d (ints w)),(7,.d (.int .i64 w.length)),(8,.d (.int .i64 k))],own:=[]})
  (λk=>k<=w.length/\∀ e∈w.take k,yG inv e=true) (λk=>w.length-k) 0 (by simp) (by simp[ints]) ?_
 intro k ⟨E,K⟩
 by_cases H:k<w.length
 .have G:(k:Int)<w.length:=by omega
  obtain⟨e,ee⟩:∃ e,w[k]=e:=⟨_,rfl⟩;have e1:w[k]?=some e:=by rw[List.getElem?_eq_getElem H,ee]
  simp+decide[ints,int,e1,ee,H,G,I64];refine zc.pure (by rfl) (TW inv e) (by simp[int,zH]) ?_
  cases J:yG inv e with
  |false=>
   have:w.findIdx? (λs=>!yG inv s)=some k:=by
    rw[List.findIdx?_eq_some_iff_getElem];refine⟨H,by rw[ee,J];rfl,λj hj=>?_⟩
    have:=K w[j] (by rw[List.mem_take_iff_getElem];exact⟨j,by omega,rfl⟩)
    rw[this];decide
   simp+decide[ints,int,J,I64,qD,this]
  |true=>
   simp+decide[ints,int,J,I64];refine⟨⟨by omega,by omega⟩,k+1,⟨H,?_⟩,by omega,by omega⟩
   intro x L;rw[List.take_succ_eq_append_getElem H] at L;rcases List.mem_append.1 L with h | h
   .exact K x h
   .rw[List.mem_singleton] at h;rw[h,ee];exact J
 .have:k=w.length:=by omega
  subst this;have:w.findIdx? (λs=>!yG inv s)=none:=by
   rw[List.findIdx?_eq_none_iff];intro x L;rw[K x (by simpa using L)];rfl
  simp+decide[ints,int,qD,this]
theorem TY(inv:List Phon)(w:List Int)(E:w.length<2^40):zi Tryz.prog 268 [.agg [zH inv],ints w] (int (qB inv w)):=by
 have K:=TX inv w E
 refine zp mixed Tryz.func268 rfl c_268 ?_
 obtain⟨R,J⟩:∃ R,qB inv w=R:=⟨_,rfl⟩
 rw[J]
 unfold qB at J
 have L:zi Tryz.prog 282 [ints w,.fn 283 [.ptr [zH inv]]] (.bool (decide (0<=qD inv w))):=by
  refine zp mixed Tryz.func282 rfl c_282 ?_
  simp+decide[Tryz.f282,ints];refine zc.pure (by rfl) K (by simp[int,zH]) ?_
  simp+decide[int]
 by_cases M:w.length=0
 .rw[if_pos M] at J
  subst J;have G:(w.length:Int)=0:=by omega
  simp+decide[Tryz.f268,int,ints,M,G];done
 rw[if_neg M] at J
 have G:¬(w.length:Int)=0:=by omega
 by_cases O:24<w.length
 .rw[if_pos O] at J
  subst J;have F:(24:Int)<w.length:=by omega
  simp+decide[Tryz.f268,int,ints,M,G,O,F];done
 rw[if_neg O] at J
 have F:¬(24:Int)<w.length:=by omega
 simp+decide[Tryz.f268,int,ints,M,G,O,F]
 refine zc.pure (by rfl) L (by simp[D.scalar]) ?_
 by_cases H:(w.all λx=>yG inv x)=true
 .rw[if_pos H] at J
  have Q:qD inv w = -1:=by
   unfold qD;have:w.findIdx? (λs=>!yG inv s)=none:=by
    rw[List.findIdx?_eq_none_iff];intro x T;rw[List.all_eq_true.1 H x T];rfl
   rw[this]
  simp+decide[int,Q,<-J]
 .rw[if_neg H] at J
  have Q:0<=qD inv w:=by
   unfold qD;cases h:w.findIdx? (λs=>!yG inv s) with
   |none=>
    rw[List.findIdx?_eq_none_iff] at h;exact absurd (List.all_eq_true.2 λx T=>by simpa using h x T) H
   |some k=>simp
  simp+decide[int,Q,<-J]
def xC{α:Type}(lt:α->Bool)(l:List α):Nat->Nat
 |0=>0
 |i+1=>match l[i]? with
  |some y=>if lt y=true then xC lt l i else i+1
  |none=>i+1
theorem UI{α:Type}(lt:α->Bool)(l:List α):∀ i,xC lt l i<=i
 |0=>Nat.le_refl _
 |i+1=>by
  unfold xC;split
  .split
   .exact Nat.le_succ_of_le (UI lt l i)
   .exact Nat.le_refl _
  .exact Nat.le_refl _
def insL{α:Type}(lt:α->Bool)(x:α)(l:List α):List α:=l.take (xC lt l l.length)++x::l.drop (xC lt l l.length)
def ZM(R:List (List D))(nr:List D)(p L:Nat):List (List D):=
 (R++[nr]).take (p+1)++(((((R++[nr]).drop p).take (L+1-p)).take (L-p))++(R++[nr]).drop (p+1+min (L-p) (L+1-p)))
theorem A0(R:List (List D))(nr:List D){p L:Nat}(H:R.length=L)(G:p<L):ZM R nr p L=(R++[nr]).take (p+1)++R.drop p:=by
 subst H
 unfold ZM
 have F:(R++[nr]).drop (p+1+min (R.length-p) (R.length+1-p))=[]:=by
  refine List.drop_eq_nil_of_le ?_
  simp;omega
 have E:((R++[nr]).drop p).take (R.length-p)=R.drop p:=by
  rw[List.drop_append_of_le_length (by omega),List.take_append_of_le_length (by simp),List.take_of_length_le (by simp)]
 rw[F,List.append_nil,List.take_take,show min (R.length-p) (R.length+1-p)=R.length-p by omega,E]
theorem Ed{R:List (List D)}(E:∀ r∈R,r.length=1){nr:List D}(K:nr.length=1)(x:D){p L:Nat}(J:R.length=L)(M:p<L):
  (∀ r∈((R++[nr]).drop p).take (L+1-p),r.length=1)/\1<=((ZM R nr p L)[p]?.getD []).length /\
   (ZM R nr p L).set p (x::((ZM R nr p L)[p]?.getD []).tail)=R.take p++[x]::R.drop p:=by
 have H:∀ r∈R++[nr],r.length=1:=by
  intro r h;rcases List.mem_append.1 h with h | h
  .exact E r h
  .rw[List.mem_singleton.1 h];exact K
 refine⟨λr h=>H r (List.mem_of_mem_drop (List.mem_of_mem_take h)),?_⟩
 rw[A0 R nr J M]
 have O:((R++[nr]).take (p+1)).length=p+1:=by rw[List.length_take];simp;omega
 have F:p<((R++[nr]).take (p+1)++R.drop p).length:=by rw[List.length_append];omega
 have Q:((R++[nr]).take (p+1)++R.drop p)[p]?.getD []=R[p]:=by
  rw[List.getElem?_append_left (by omega),List.getElem?_take,if_pos (by omega),List.getElem?_append_left (by omega),List.getElem?_eq_getElem (by omega)];rfl
 rw[Q]
 have G:=E R[p] (List.getElem_mem (by omega))
 refine⟨by omega,?_⟩
 have T:(R[p]).tail=[]:=by
  cases h:R[p] with
  |nil=>rfl
  |cons a l=>rw[h] at G;simp at G;exact G
 rw[T,List.set_append_left _ _ (by omega),List.take_append_of_le_length (by omega),List.take_succ_eq_append_getElem (by omega),List.set_append_right _ _ (by simp;omega)]
 simp
 rw[show p-min p R.length=0 by omega];rfl
noncomputable instance decBytes(k:ByteArray)(l:List ByteArray):Decidable (k∈l):=Classical.propDecidable _
abbrev J8:=List ByteArray×List (List Int)
noncomputable def ke(x:J8)(_:List Prt)(base:List Int):J8×Bool:=(if keyS base∈x.1 then x else (x.1++[keyS base],insL (λo=>Vo base o) base x.2),true)
theorem gW{α:Type}{lt:α->Bool}{x y:α}{l:List α}:y∈insL lt x l↔y=x\/y∈l:=by
 unfold insL
 rw[List.mem_append,List.mem_cons]
 constructor
 .rintro(h | h | h)
  .exact .inr (List.mem_of_mem_take h)
  .exact .inl h
  .exact .inr (List.mem_of_mem_drop h)
 .rintro(h | h)
  .exact .inr (.inl h)
  .rw[<-List.take_append_drop (xC lt l l.length) l] at h
   rcases List.mem_append.1 h with h | h
   .exact .inl h
   .exact .inr (.inr h)
theorem Qh{α:Type}{lt:α->Bool}{x:α}{l:List α}:(insL lt x l).length=l.length+1:=by
 have:=UI lt l l.length
 unfold insL
 rw[List.length_append,List.length_take,List.length_cons,List.length_drop]
 omega
noncomputable def J9(g:Lang)(w:List Int):List (List Int):=(sF ke (([],[]),true) ((yF g w).map λb=>(b,zL g.lex b))).1.2
end Go.V

/- Contracts and plain laws of this seat: part MD. It needs no conditions. -/
import Derived.Test.YtknekjalbninmaaGreatMC
import Derived.Test.YtknekjalbninmaaGreatMB
import Derived.Test.YtknekjalbninmaaGreatSw
import Derived.WalkKit
import Derived.BigCall
import Derived.KernelRfl
import Derived.Shelf.Strings.Builder1
import Derived.Test.YtknekjalbninmaaGreatMA
set_option linter.all false
set_option maxHeartbeats 32000000
set_option maxRecDepth 100000
namespace Go.V.Doc
open Go Go.Proofs Go.Sort Go.RowKit Tryz
theorem WV{a b:Nt}:uP a b=true↔a.id<b.id:=by
 unfold uP ltOf X1
 rw[nD]
 simp only[qh]
 repeat' split
 all_goals omega
theorem IY:SWO uP where
 irrefl:=λx=>by rw[<-pW,WV];omega
 trans:=λx y z H h2=>by rw[WV] at *;omega
 ntrans:=λx y z H h2=>by rw[<-pW,WV] at *;omega
def vJ(l:List Nt):List Nt:=(pdq uP l.toArray 0 l.length (Lib.bitLen l.length) true true).toList
theorem D2(l:List Nt):PermIn 0 l.length l.toArray (pdq uP l.toArray 0 l.length (Lib.bitLen l.length) true true)/\SortedIn uP 0 l.length (pdq uP l.toArray 0 l.length (Lib.bitLen l.length) true true):=
 pdq_sorts uP IY l.toArray 0 l.length (Lib.bitLen l.length) true true (nU _) (by simp) (Or.inl rfl)
theorem VQ(l:List Nt):(vJ l).length=l.length:=by
 have:=(D2 l).1.1
 unfold vJ
 rw[oM,this];simp
theorem VR(l:List Nt):(vJ l).Perm l:=by
 obtain⟨H,_,G⟩:=(D2 l).1
 unfold vJ
 generalize pdq uP l.toArray 0 l.length (Lib.bitLen l.length) true true=A at H G
 have e1:A.extract 0 l.length=A:=by rw[show l.length=A.size by rw[H];simp];simp
 have e2:l.toArray.extract 0 l.length=l.toArray:=by rw[show l.length=l.toArray.size by simp];simp
 rw[e1,e2] at G
 simpa using G
theorem zba(l:List Nt):(vJ l).Pairwise λa b=>¬b.id<a.id:=by
 have hs:=(D2 l).2
 have G:=VQ l
 unfold vJ at G ⊢
 generalize pdq uP l.toArray 0 l.length (Lib.bitLen l.length) true true=A at hs G
 rw[od]
 intro i j hi hj H
 rw[oM] at G
 have:=hs i j (nU _) H (by rw[oM] at hj;omega)
 rw[oM] at hi hj
 rw[<-pW,WV] at this
 simpa[Ay,hi,hj] using this
theorem zj2(l:List Nt)(F:l≠[])(K:l.length<4611686018427387904):
  aU prog 65 [.ar 0,.fn 66 []] [(0,.aQ 72 7 (l.map Nt.row))] 1 (.d (.bE [])) 1 [(0,.aQ 72 7 ((vJ l).map Nt.row))] []:=by
 refine CO ZV c_65 F (VQ l) ?_
 intro w E β vs G H g cap J L M
 simp only[zi,Sm] at G
 obtain⟨_,_,rfl,⟨_,rfl,rfl⟩,rfl⟩:=G
 have:=AnyQ.slices_SortFunc_eq zpx 7 Hv Hw Nt.cv ZV.len ZV.cB X1 IY 66 #[] g 0 cap l.toArray w zj1
  (zrg H L) M J (by simpa using K)
 change Calls prog 65 _ _ _ at this
 have e:(pdq (ltOf X1) l.toArray 0 l.toArray.size (Lib.bitLen l.toArray.size) true true)=(vJ l).toArray:=by
  unfold vJ uP;simp
 rw[e] at this
 simpa using this
def xq(l:List Nt)(n:Nt):List Nt:=l.takeWhile (λm=>!decide (n.id<m.id))++n::l.dropWhile (λm=>!decide (n.id<m.id))
theorem Q8(l:List Nt)(n:Nt):(xq l n).Perm (n::l):=by
 unfold xq
 refine tz.trans ?_
 rw[tq]
def ve(l:List Nt)(n:Nt)(k:Nat):List Nt×Bool:=if (l.take k).all (λm=>!decide (n.id<m.id))=true then (l.take k,false) else (xq (l.take k) n,true)
theorem D3{α:Type}{p:α->Bool}:∀ {l:List α},(∀ m∈l,p m=true)->l.takeWhile p=l/\l.dropWhile p=[]
 | [],_=>⟨rfl,rfl⟩
 |a::l,h=>by
  have ih:=D3 λm H=>h m (nG _ H)
  have G:=h a nL;simp only[B3,B4,gt G,ih.1,ih.2,and_self]
theorem IZ{l:List Nt}{n:Nt}(h:l.all (λm=>!decide (n.id<m.id))=true):xq l n=l++[n]:=by
 unfold xq
 rw[(D3 (oo.1 h)).1,(D3 (oo.1 h)).2]
theorem zj3{l:List Nt}{n m:Nt}(h:l.all (λm=>!decide (n.id<m.id))=false):xq (l++[m]) n=xq l n++[m]:=by
 unfold xq
 induction l with
 |nil=>simp at h
 |cons a l ih=>
  simp only[nV,B3,B4];by_cases c:(!decide (n.id<a.id))=true
  .rw[gt c,gt c,gt c,gt c]
   rw[Ch,c,pK] at h;have:=ih h
   simp only[nV] at this ⊢;rw[this]
  .rw[ge c,ge c,ge c,ge c];simp
theorem zj4{l:List Nt}{n m:Nt}{k:Nat}(F:l[k]?=some m):ve l n (k+1)=if (ve l n k).2=false/\n.id<m.id then ((ve l n k).1++[n]++[m],true) else ((ve l n k).1++[m],(ve l n k).2):=by
 have hs:l.take (k+1)=l.take k++[m]:=by rw[rT,F];rfl
 unfold ve
 rw[hs,List.all_append]
 by_cases c:(l.take k).all (λm=>!decide (n.id<m.id))=true
 .rw[c]
  by_cases c2:n.id<m.id
  .have G:=IZ c
   have H:xq (l.take k++[m]) n=l.take k++[n]++[m]:=by
    unfold xq;have E:∀ x∈l.take k,(λm:Nt=>!decide (n.id<m.id)) x=true:=oo.1 c
    rw[tL E,List.dropWhile_append_of_pos E];simp[c2]
   simp[c2,H]
  .simp[c2]
 .rw[pW] at c
  rw[c];simp[zj3 c]
end Go.V.Doc
namespace Go.Proofs
open Go.Proofs.Tryz
open Go.RowKit Go.Shelf
theorem D5:(prog.info? 166).map (·.size)=some 2:=by kernel_rfl
theorem M3:liesAt prog prog.depth 166 (2/prog.cellsOf 166) 0 166 1=true:=by kernel_rfl
theorem zrh(b:Nat)(w:World)(H:w.cell? ⟨b,0,none⟩=some (.pointer (some ⟨b,0,none⟩))):
  Calls prog 159 #[.pointer (some ⟨b,0,none⟩)] w λe w'=>e = .returned (.tuple #[])/\w'=w:=by
 obtain⟨j,hj,_⟩:=rE.1 D5
 go_enter func159,ntmps159
 go_wp2
 rw[Lib.run_neq_ptr_same w _ underlying163 hj]
 go_wp2
 go_end0
 exact⟨rfl,rfl⟩
theorem zof(b:Nat)(w:World)(E:w.cell? ⟨b,0,none⟩=some (.pointer none))(H:w.shape? b=some (166,2))(F:w.frozen? ⟨b,0,none⟩=false):
  Calls prog 159 #[.pointer (some ⟨b,0,none⟩)] w λe w'=>e = .returned (.tuple #[])/\w'=w.setCell ⟨b,0,none⟩ (.pointer (some ⟨b,0,none⟩)):=by
 obtain⟨j,hj,G⟩:=rE.1 D5
 go_enter func159,ntmps159
 go_wp2
 rw[Lib.run_to_unsafe w ⟨b,0,none⟩ underlying163 underlying258 hj (by rw[G];decide) H (Nat.zero_lt_succ 1)]
 simp only[Result.andThen]
 rw[Oper.upon_value]
 go_wp2
 rw[run_callFunc_extern func205 (by kernel_rfl) (by kernel_rfl) (by kernel_rfl) (e:=Extern.AbiNoEscape.same) (by kernel_rfl)]
 rw[Lib.run_noEscape]
 simp only[Result.andThen]
 rw[Oper.upon_value]
 go_wp2
 rw[Lib.run_from_unsafe w ⟨b,0,none⟩ underlying258 underlying163 hj H M3]
 simp only[Result.andThen]
 rw[Oper.upon_value]
 go_wp2
 go_end0
 exact⟨rfl,rfl⟩
theorem zur:Builder.X72 prog fk:=⟨D5,M3⟩
theorem bldX:Builder.Extra prog fk:={zur with
 t5:=underlying5
 a5:=isAgg5
 z5:=sizeOf5
 v5:=zeroValue5
 infoByte:=by kernel_rfl
 cellsByte:=by kernel_rfl
 sizeByte:=by kernel_rfl
 neB5:=by decide}
end Go.Proofs
namespace Go.V
open Go Go.Proofs Tryz
def WW(S m:Nat):List (List D):=(yv S m).map λb=>[.bool b]
theorem zd4(n:aY)(O:dK n)(m:Nat)(c:Int):
  eG prog 206 [.agg n.cells,ya (yv n.az.toNat m),int c] 4 1 (WW n.az.toNat (xh n.aw m c)):=by
 have Q:=O.lo
 have T:=O.hi
 have K:=O.cW
 refine lh func206 (by intro r V;unfold WW at V;rw[nS] at V;obtain⟨b,_,rfl⟩:=V;rfl) ?_
 simp+decide[f206,aY.cells,int,aa,ya]
 refine⟨by omega,by omega,by unfold maxLen;omega,?_⟩
 refine dg (λk:Nat=>{n:=45,next:=3,af:=[(1,.d (ya (yv n.az.toNat m))),(2,.d (int c)),(3,.bp 0 0),(7,.ar 2),(8,.d (int k))],own:=[(0,.box 33 (n.cells.map .d)),(2,.aQ 4 1 ((yv n.az.toNat (xh (n.aw.take k) m c)).map λb=>[.bool b]))],aA:=[]}) n.aw.length (by simp+decide[int,aa,xh,Wj,aY.cells,ya]) ?_
 intro k X
 by_cases H:k<n.aw.length
 case neg=>
  obtain rfl:k=n.aw.length:=by omega
  rw[nH];simp+decide[int,aa,ya,aY.cells,bk,WW]
 have G:=bG H
 have Y:=O.aw n.aw[k] (nF H)
 have aI:xh (n.aw.take (k+1)) m c=ZS m c (xh (n.aw.take k) m c) n.aw[k]:=by unfold xh;rw[yh H,oI];rfl
 obtain⟨x,eq,e1⟩:=bN H
 rw[eq] at Y aI
 obtain⟨⟨q1,q2⟩,⟨q3,q4⟩,q5⟩:=Y
 have Z:=ZR (S:=n.az.toNat) (m:=m) (q:=x.bl.toNat) (by omega)
 have F:=Gw (S:=n.az.toNat) (m:=xh (n.aw.take k) m c) (q:=x.dst.toNat) (by omega)
 rw[show((x.dst.toNat:Nat):Int)=x.dst by omega] at F
 have J:=ZR (S:=n.az.toNat) (m:=xh (n.aw.take k) m c) (q:=x.dst.toNat) (by omega)
 have E:(List.map (λb=>[D.bool b]) (yv n.az.toNat (xh (n.aw.take k) m c))).set x.dst.toNat [D.bool true]=List.map (λb=>[D.bool b]) (yv n.az.toNat (qC (xh (n.aw.take k) m c) x.dst)):=by
  rw[<-F,sh]
 unfold ZS kX at aI
 cases A:m.testBit x.bl.toNat with
 |false=>
  rw[A] at Z aI;rw[ge (by simp)] at aI
  simp+decide[int,aa,H,G,eq,q1,Z,ya,aY.cells,bk,dN.row];exact⟨by omega,⟨by omega,by omega⟩,k+1,H,by omega,by omega,by rw[aI]⟩
 |true=>
  rw[A] at Z aI;by_cases B:c=0\/x.cU=c
  .rw[gt ⟨rfl,B⟩] at aI
   simp+decide[int,aa,H,G,eq,q1,q3,Z,ya,aY.cells,bk,dN.row,J];refine⟨by omega,λC=>⟨λh=>⟨by omega,by omega,⟨by omega,by omega⟩,k+1,H,by omega,by omega,by rw[aI];exact E⟩,λh=>absurd B (by rintro(I | I);exact C I;exact h I)⟩,λC=>⟨by omega,by omega,⟨by omega,by omega⟩,k+1,H,by omega,by omega,by rw[aI];exact E⟩⟩
  .rw[ge (λh=>B h.2)] at aI
   have L:¬c=0:=λh=>B (.inl h)
   have M:¬x.cU=c:=λh=>B (.inr h)
   simp+decide[int,aa,H,G,eq,q1,Z,ya,aY.cells,bk,dN.row,L,M];exact⟨by omega,⟨by omega,by omega⟩,k+1,H,by omega,by omega,by rw[aI]⟩
def qS(l:List dN):Nat->Nat->Nat
 |0,m=>m
 |k+1,m=>xh l (qS l k m) 0 |||qS l k m
def wR(S a b k:Nat):List Bool:=(List.range S).map λq=>if q<k then (a.testBit q || b.testBit q) else a.testBit q
@[simp] theorem zun(S a b k:Nat):(wR S a b k).length=S:=by simp[wR]
theorem Y8{S a b k q:Nat}(h:q<(wR S a b k).length):(wR S a b k)[q]=if q<k then (a.testBit q || b.testBit q) else a.testBit q:=by simp[wR]
theorem zj5(S a b:Nat):wR S a b 0=yv S a:=by
 apply rh
 .simp
 .intro i H h2;rw[Y8,YI];simp
theorem zj6(S a b:Nat):wR S a b S=yv S (a ||| b):=by
 apply rh
 .simp
 .intro i H h2
  have:i<S:=by simpa using H
  rw[Y8,YI,gt this,rO]
theorem zog{S a b k:Nat}(h:k<S):(wR S a b k)[k]?=some (a.testBit k):=by
 rw[ac (by simpa using h),Y8,ge (by omega)]
theorem zoh{S a b k:Nat}(h:k<S):(wR S a b k).set k (a.testBit k || b.testBit k)=wR S a b (k+1):=by
 apply rh
 .simp
 .intro i G h2
  rw[xb,Y8];by_cases e:k=i
  .subst e;rw[gt rfl,Y8,gt (by omega)]
  .rw[ge e,Y8]
   by_cases H:i<k
   .rw[gt H,gt (by omega)]
   .rw[ge H,ge (by omega)]
theorem zcc(n:aY)(J:dK n)(m:Nat):aq prog 299 [.agg n.cells,ya (yv n.az.toNat m)] (ya (yv n.az.toNat (qS n.aw n.az.toNat m))):=by
 have L:=J.lo
 have M:=J.hi
 refine aF func299 ?_
 simp+decide[Tryz.f299,aY.cells,int,aa]
 refine xP (λr:Nat=>{n:=38,next:=2,af:=[(1,.d (ya (yv n.az.toNat (qS n.aw r m)))),(2,.bp 0 0),(5,.d (int r))],own:=[(0,.box 33 (n.cells.map .d))],aA:=[2]}) n.az.toNat (by simp+decide[int,aa,aY.cells,qS]) ?_
 intro r O
 by_cases K:r<n.az.toNat
 .have G:(r:Int)<n.az:=by omega
  have Q:=zd4 n J (qS n.aw r m) 0;have aI:qS n.aw (r+1) m=xh n.aw (qS n.aw r m) 0 ||| qS n.aw r m:=rfl
  generalize qS n.aw r m=b at Q aI;generalize xh n.aw b 0=a at Q aI;refine jb mixed 1 {n:=38,next:=2,af:=[(1,.d (ya (yv n.az.toNat b))),(2,.bp 0 0),(5,.d (int r))],own:=[(0,.box 33 (n.cells.map .d))],aA:=[2]} rfl (by simp+decide[yo,qL,int,aa,aY.cells,G]) ?_
  simp only[yK];refine XB (ZH (jb mixed 2 {n:=38,next:=3,af:=[(1,.d (ya (yv n.az.toNat b))),(2,.bp 0 0),(5,.d (int r)),(6,.ar 2)],own:=[(0,.box 33 (n.cells.map .d)),(2,.aQ 4 1 ((wR n.az.toNat a b n.az.toNat).map λb=>[.bool b]))],aA:=[2]} rfl ?_ ?_)) mixed
  .simp+decide[yo,int,aa,aY.cells]
   refine zE.im (by rfl) Q (by simp) ?_
   simp+decide
   refine dg (λk:Nat=>{n:=38,next:=3,af:=[(1,.d (ya (yv n.az.toNat b))),(2,.bp 0 0),(5,.d (int r)),(6,.ar 2),(7,.d (int k))],own:=[(0,.box 33 (n.cells.map .d)),(2,.aQ 4 1 ((wR n.az.toNat a b k).map λb=>[.bool b]))],aA:=[2]}) n.az.toNat (by simp+decide[int,aa,aY.cells,zj5,WW]) ?_
   intro k T;by_cases F:k<n.az.toNat
   .have H:(k:Int)<n.az:=by omega
    have g1:=zog (a:=a) (b:=b) F;have g2:=ZR (m:=b) F;have E:(List.map (λb=>[D.bool b]) (wR n.az.toNat a b k)).set k [D.bool (a.testBit k || b.testBit k)]=List.map (λb=>[D.bool b]) (wR n.az.toNat a b (k+1)):=by
     rw[<-zoh F,sh]
    cases V:a.testBit k with
    |true=>
     rw[V] at g1 E;rw[Cs] at E;simp+decide[int,aa,aY.cells,F,H,Y8,V,ya,aB];exact⟨by omega,by omega,k+1,F,by omega,by omega,E⟩
    |false=>
     rw[V] at g1 E;rw[rk] at E;simp+decide[int,aa,aY.cells,F,H,Y8,YI,V,ya,aB];exact⟨by omega,by omega,k+1,F,by omega,by omega,E⟩
   .have:k=n.az.toNat:=by omega
    have H:¬(k:Int)<n.az:=by omega
    rw[this] at H ⊢;simp+decide[int,aa,aY.cells,qL];omega
  .simp only[yK]
   refine ZI [2] ?_
   refine cy ?_
   rw[zj6,<-aI];simp+decide[int,aa,aY.cells,aB];exact⟨by omega,r+1,K,by omega,rfl,by omega⟩
 .have:r=n.az.toNat:=by omega
  have G:¬(r:Int)<n.az:=by omega
  rw[<-this];refine cy ?_
  simp+decide[int,aa,aY.cells,G]
def ui(n:aY)(q:Nat):Bool:=vS n.az.toNat (qS n.aw n.az.toNat (qC 0 (q:Int))) (yg n.aS)
def vZ(n:aY)(k:Nat):List Bool:=(List.range n.az.toNat).map λq=>decide (q<k)&&ui n q
def kF(n:aY):Nat:=(List.range n.az.toNat).foldl (λm q=>if ui n q=true then m ||| (1 <<< q) else m) 0
theorem zgv(n:aY):vZ n 0=List.replicate n.az.toNat false:=by
 apply rh
 .simp[vZ]
 .intro i H h2;simp[vZ]
theorem zj7{n:aY}{k:Nat}(h:k<n.az.toNat):(vZ n k).set k (ui n k)=vZ n (k+1):=by
 apply rh
 .simp[vZ]
 .intro i H h2
  rw[xb];simp only[vZ,xc,Cl];by_cases e:k=i
  .subst e;simp
  .rw[ge e]
   congr 1
   have:(i<k)↔(i<k+1):=by omega
   simp[this]
theorem zj8{n:aY}{k:Nat}(h:k<n.az.toNat):(vZ n k)[k]?=some false:=by
 rw[ac (by simpa[vZ] using h)]
 simp[vZ]
theorem D6(f:Nat->Bool):∀ (l:List Nat) (m j:Nat),(l.foldl (λm q=>if f q=true then m ||| (1 <<< q) else m) m).testBit j=(m.testBit j || decide (j∈l/\f j=true))
 | [],m,j=>by simp
 |q::l,m,j=>by
  rw[oK,D6 f l];by_cases H:f q=true
  .rw[gt H,Gv]
   by_cases e:q=j
   .subst e;simp[H]
   .have e':¬j=q:=λh=>e h.symm
    simp[e,e']
  .rw[ge H]
   by_cases e:j=q
   .subst e;simp[H]
   .simp[e]
theorem zgw(n:aY):vZ n n.az.toNat=yv n.az.toNat (kF n):=by
 apply rh
 .simp[vZ]
 .intro i H G
  have hi:i<n.az.toNat:=by simpa using G
  rw[YI];unfold kF;rw[D6];simp[vZ,hi];intro _;omega
theorem zj9(n:aY)(K:dK n):aq prog 297 [.agg n.cells] (ya (yv n.az.toNat (kF n))):=by
 have J:=K.lo
 have L:=K.hi
 refine aF func297 ?_
 simp+decide[Tryz.f297,aY.cells,int,aa]
 refine⟨by omega,by omega,by unfold maxLen;omega,?_⟩
 refine dg (λk:Nat=>{n:=29,next:=3,af:=[(1,.bp 0 0),(3,.ar 2),(4,.d (int k))],own:=[(0,.box 33 (n.cells.map .d)),(2,.aQ 4 1 ((vZ n k).map λb=>[.bool b]))],aA:=[]}) n.az.toNat (by simp+decide[int,aa,aY.cells,zgv]) ?_
 intro k M
 by_cases G:k<n.az.toNat
 .have H:(k:Int)<n.az:=by omega
  simp+decide[int,aa,aY.cells,H];have O:=Wl n K [(k:Int)] (by intro q Q;rw[nQ] at Q;omega) (by simp)
  have T:=zcc n K (yg [(k:Int)]);have V:=Wl n K n.aS K.aS K.ll;have X:=Gx n.az.toNat (qS n.aw n.az.toNat (yg [(k:Int)])) (yg n.aS) (by omega)
  have Y:vS n.az.toNat (qS n.aw n.az.toNat (yg [(k:Int)])) (yg n.aS)=ui n k:=rfl
  rw[Y] at X;have F:(List.map (λb=>[D.bool b]) (vZ n k)).set k [D.bool (ui n k)]=List.map (λb=>[D.bool b]) (vZ n (k+1)):=by
   rw[<-zj7 G,sh]
  have Z:=zj8 G;have E:(vZ n k).length=n.az.toNat:=by simp[vZ]
  refine Z8 mixed 14 [2] (by rfl) (by rfl) (by rfl) (by rfl) (by simp) ?_
  simp+decide
  refine bw O ?_
  simp+decide
  refine bw T ?_
  simp+decide
  refine bw V ?_
  simp+decide
  refine bw X ?_
  simp+decide[E,G,aB];exact⟨by omega,k+1,G,by omega,by omega,F⟩
 .have:k=n.az.toNat:=by omega
  have H:¬(k:Int)<n.az:=by omega
  rw[<-zgw,<-this];simp+decide[int,aa,aY.cells,H,ya]
def jk(n:aY)(cs:List Int)(k:Nat):List Int:=((List.range k).map λ(i:Nat)=>(i:Int)+1).filter λc=>vS n.az.toNat (yw n.aw (yr n.aw cs) c) (kF n)
theorem zcd(n:aY)(cs:List Int)(k:Nat):jk n cs (k+1)=jk n cs k++(if vS n.az.toNat (yw n.aw (yr n.aw cs) ((k:Int)+1)) (kF n)=true then [(k:Int)+1] else []):=by
 unfold jk
 rw[qr,oF,pm]
 congr 1
 by_cases h:vS n.az.toNat (yw n.aw (yr n.aw cs) ((k:Int)+1)) (kF n)=true
 .simp[h]
 .simp[h]
theorem M4(n:aY)(cs:List Int)(k:Nat):(jk n cs k).length<=k:=by
 unfold jk
 refine oC (oz ..) ?_
 simp
theorem zd5(n:aY)(E:dK n)(cs:List Int)(K:cs.length<2^40):aq prog 289 [.agg n.cells,aa cs] (aa (jk n cs 20)):=by
 have J:=E.lo
 have L:=E.hi
 refine aF func289 ?_
 simp+decide[f289,aY.cells,int,aa]
 refine zg (EU n E cs K) ?_
 simp+decide
 refine zg (zj9 n E) ?_
 simp+decide[ya]
 refine dg (λk:Nat=>{n:=29,next:=3,af:=[(2,.bp 0 0),(5,.ar 2),(6,.d (ya (yv n.az.toNat (yr n.aw cs)))),(7,.d (ya (yv n.az.toNat (kF n)))),(8,.d (int ((k:Int)+1)))],own:=[(0,.box 33 (n.cells.map .d)),(2,.aQ 3 1 ((jk n cs k).map λn=>[int n]))],aA:=[2]}) 20 (by simp+decide[int,aa,aY.cells,ya,jk]) ?_
 intro k M
 by_cases G:k<20
 .have H:(k:Int)+1<=20:=by omega
  have aI:=zcd n cs k;have F:=M4 n cs k;have O:=ER n E (yr n.aw cs) ((k:Int)+1);rw[Gy E _ (by omega)] at O
  have Q:=Gx n.az.toNat (yw n.aw (yr n.aw cs) ((k:Int)+1)) (kF n) (by omega)
  simp+decide[int,aa,aY.cells,ya,H];refine zg O ?_
  simp+decide[ya];refine zg Q ?_
  cases T:vS n.az.toNat (yw n.aw (yr n.aw cs) ((k:Int)+1)) (kF n) with
  |false=>
   rw[ge (by rw[T];decide),oq] at aI
   simp+decide[aB];exact⟨by omega,k+1,G,by omega,by omega,by rw[aI]⟩
  |true=>
   rw[gt T] at aI;simp+decide[aB];exact⟨by omega,by unfold maxLen;omega,by omega,k+1,G,by omega,by omega,by rw[aI];simp⟩
 .obtain rfl:k=20:=by omega
  simp+decide[int,aa,aY.cells]
theorem zka(m:Nat)(q:Int)(j:Nat):(qC m q).testBit j=(m.testBit j || decide (q.toNat=j)):=by unfold qC;exact Gv m q.toNat j
theorem M5(m:Nat)(c:Int)(j:Nat):∀ (l:List dN) (out:Nat),(l.foldl (ZS m c) out).testBit j=(out.testBit j || l.any λx=>m.testBit x.bl.toNat&&(decide (c=0) || decide (x.cU=c))&&decide (x.dst.toNat=j))
 | [],out=>by simp
 |x::l,out=>by
  rw[oK,M5 m c j l,Cg];unfold ZS kX;by_cases h:m.testBit x.bl.toNat=true/\(c=0\/x.cU=c)
  .rw[gt h,zka,h.1]
   have:(decide (c=0) || decide (x.cU=c))=true:=by rcases h.2 with e | e <;> simp[e]
   rw[this,Bool.and_true,pK,Bool.or_assoc]
  .rw[ge h]
   have:(m.testBit x.bl.toNat&&(decide (c=0) || decide (x.cU=c)))=false:=by
    cases H:m.testBit x.bl.toNat with
    |false=>rfl
    |true=>
     rw[pK];have G:¬(c=0\/x.cU=c):=λe=>h ⟨H,e⟩
     simp only[rY,pO];exact⟨λe=>G (.inl e),λe=>G (.inr e)⟩
   rw[this,tX,rk]
theorem X3(l:List dN)(m:Nat)(c:Int)(j:Nat):(xh l m c).testBit j=l.any λx=>m.testBit x.bl.toNat&&(decide (c=0) || decide (x.cU=c))&&decide (x.dst.toNat=j):=by
 unfold xh;rw[M5];simp
def Q9(s0 s1 s2 m:Nat):Nat:=(if m.testBit 0=true then s0 else 0) ||| (if m.testBit 1=true then s1 else 0) ||| (if m.testBit 2=true then s2 else 0)
def kG(s0 s1 s2:Nat):Nat->Nat->Nat
 |0,m=>m
 |k+1,m=>Q9 s0 s1 s2 (kG s0 s1 s2 k m) |||kG s0 s1 s2 k m
theorem zri:∀ s0 m:Fin 2,Q9 s0.val 0 0 (kG s0.val 0 0 1 m.val) ||| kG s0.val 0 0 1 m.val=kG s0.val 0 0 1 m.val:=by decide +kernel
theorem l_:∀ s0 s1 m:Fin 4,Q9 s0.val s1.val 0 (kG s0.val s1.val 0 2 m.val) ||| kG s0.val s1.val 0 2 m.val=kG s0.val s1.val 0 2 m.val:=by decide +kernel
theorem zrj:∀ s0 s1 s2 m:Fin 8,Q9 s0.val s1.val s2.val (kG s0.val s1.val s2.val 3 m.val) ||| kG s0.val s1.val s2.val 3 m.val=kG s0.val s1.val s2.val 3 m.val:=by decide +kernel
theorem Qa(q j:Nat):(1 <<< q).testBit j=decide (q=j):=by rw[wr,BY]
def jQ(l:List dN)(q:Nat):Nat:=xh l (1 <<< q) 0
theorem M6(l:List dN)(H:∀ x∈l,0<=x.bl/\x.bl<3)(m:Nat):xh l m 0=Q9 (jQ l 0) (jQ l 1) (jQ l 2) m:=by
 apply tI
 intro j
 have G:∀ q,(jQ l q).testBit j=l.any λx=>decide (q=x.bl.toNat)&&decide (x.dst.toNat=j):=by
  intro q;unfold jQ;rw[X3];congr 1
  funext x
  rw[Qa];simp
 have hi:∀ q,(if m.testBit q=true then jQ l q else 0).testBit j=(m.testBit q&&l.any λx=>decide (q=x.bl.toNat)&&decide (x.dst.toNat=j)):=by
  intro q;cases h:m.testBit q with
  |true=>rw[gt rfl,G];rfl
  |false=>rw[ge (by decide)];simp
 unfold Q9
 rw[rO,rO,hi,hi,hi,X3,AT]
 simp only[oS,nI,n_,nD]
 constructor
 .rintro⟨x,F,⟨E,_⟩,K⟩
  have J:=H x F;have:x.bl.toNat=0\/x.bl.toNat=1\/x.bl.toNat=2:=by omega
  rcases this with e | e | e
  .rw[e] at E;exact .inl (.inl ⟨E,x,F,e.symm,K⟩)
  .rw[e] at E;exact .inl (.inr ⟨E,x,F,e.symm,K⟩)
  .rw[e] at E;exact .inr ⟨E,x,F,e.symm,K⟩
 .rintro((⟨h,x,F,e,K⟩ | ⟨h,x,F,e,K⟩) | ⟨h,x,F,e,K⟩) <;> exact⟨x,F,⟨by rw[<-e];exact h,by simp⟩,K⟩
theorem M7(l:List dN)(H:∀ x∈l,0<=x.bl/\x.bl<3)(m:Nat):∀ k,qS l k m=kG (jQ l 0) (jQ l 1) (jQ l 2) k m
 |0=>rfl
 |k+1=>by unfold qS kG;rw[M7 l H m k,M6 l H]
theorem M8{m S:Nat}(h:∀ j,m.testBit j=true->j<S):m<2^S:=by
 apply Nat.lt_pow_two_of_testBit
 intro j hj
 cases H:m.testBit j with
 |false=>rfl
 |true=>exact absurd (h j H) (by omega)
theorem D7{n:aY}(H:dK n)(q:Nat):jQ n.aw q<2^n.az.toNat:=by
 apply M8
 intro j hj
 unfold jQ at hj
 rw[X3,n_] at hj
 obtain⟨x,G,h⟩:=hj
 simp only[nI,nD] at h
 have:=(H.aw x G).2.1
 omega
theorem M9{n:aY}(H:dK n){q:Nat}(G:n.az.toNat<=q):jQ n.aw q=0:=by
 apply tI
 intro j
 rw[xD]
 unfold jQ
 rw[X3,oB]
 intro x F h
 rw[Qa] at h
 simp only[nI,nD] at h
 have:=(H.aw x F).1
 omega
theorem zbb{n:aY}(H:dK n){m:Nat}(G:m<2^n.az.toNat):xh n.aw (qS n.aw n.az.toNat m) 0 ||| qS n.aw n.az.toNat m=qS n.aw n.az.toNat m:=by
 have F:∀ x∈n.aw,0<=x.bl/\x.bl<3:=λx E=>by have:=(H.aw x E).1;have:=H.hi;omega
 rw[M6 _ F,M7 _ F]
 have K:=D7 H 0
 have J:=D7 H 1
 have L:=D7 H 2
 have M:n.az.toNat=1\/n.az.toNat=2\/n.az.toNat=3:=by have:=H.lo;have:=H.hi;omega
 have z1:=λh=>M9 H (q:=1) h
 have z2:=λh=>M9 H (q:=2) h
 generalize jQ n.aw 0=s0 at *
 generalize jQ n.aw 1=s1 at *
 generalize jQ n.aw 2=s2 at *
 rcases M with e | e | e
 .rw[e] at K G z1 z2 ⊢
  rw[z1 (by omega),z2 (by omega)]
  exact zri ⟨s0,K⟩ ⟨m,G⟩
 .rw[e] at K J G z2 ⊢
  rw[z2 (by omega)]
  exact l_ ⟨s0,K⟩ ⟨s1,J⟩ ⟨m,G⟩
 .rw[e] at K J L G ⊢
  exact zrj ⟨s0,K⟩ ⟨s1,J⟩ ⟨s2,L⟩ ⟨m,G⟩
def mL(a b:Nat):Prop:=∀ j,a.testBit j=true->b.testBit j=true
theorem zkb{l:List dN}{a b:Nat}{c:Int}(h:mL a b):mL (xh l a c) (xh l b c):=by
 intro j hj
 rw[X3,n_] at hj ⊢
 obtain⟨x,H,G⟩:=hj
 simp only[nI] at G ⊢
 exact⟨x,H,⟨h _ G.1.1,G.1.2⟩,G.2⟩
theorem D8(l:List dN)(m:Nat):∀ k,mL m (qS l k m)
 |0=>λ_ h=>h
 |k+1=>λj h=>by unfold qS;rw[rO,D8 l m k j h,Bool.or_true]
theorem D9{l:List dN}{m R:Nat}(h:mL m R)(H:xh l R 0 ||| R=R):∀ k,mL (qS l k m) R
 |0=>h
 |k+1=>λj hj=>by
  unfold qS at hj;rw[rO,oS] at hj;rcases hj with hj | hj
  .have:=zkb (D9 h H k) j hj
   rw[<-H,rO,this,Cs]
  .exact D9 h H k j hj
theorem lT{m q:Nat}(h:m.testBit q=true):mL (1 <<< q) m:=by
 intro j hj
 rw[Qa,nD] at hj
 rw[<-hj];exact h
theorem Mc(q:Nat):qC 0 (q:Int)=1 <<< q:=by unfold qC;simp
theorem zti{q S:Nat}(h:q<S):1 <<< q<2^S:=M8 λj hj=>by rw[Qa,nD] at hj;omega
theorem zkc{n:aY}(F:dK n){x:dN}(E:x∈n.aw)(h:ui n x.dst.toNat=true):ui n x.bl.toNat=true:=by
 obtain⟨⟨s1,s2⟩,⟨d1,d2⟩,_⟩:=F.aw x E
 unfold ui at h ⊢
 rw[Mc] at h ⊢
 unfold vS at h ⊢
 rw[n_] at h ⊢
 obtain⟨j,hj,K⟩:=h
 rw[nI] at K
 refine⟨j,hj,?_⟩
 rw[nI]
 refine⟨?_,K.2⟩
 have G:=zbb F (zti (S:=n.az.toNat) (q:=x.bl.toNat) (by omega))
 have H:=D8 n.aw (1 <<< x.bl.toNat) n.az.toNat x.bl.toNat (by rw[Qa];simp)
 generalize qS n.aw n.az.toNat (1 <<< x.bl.toNat)=R at G H ⊢
 refine D9 (R:=R) (lT ?_) G n.az.toNat j K.1
 rw[<-G,rO,X3,oS]
 left
 rw[n_]
 exact⟨x,E,by simp[H]⟩
theorem Md{n:aY}{q:Nat}(h:q<n.az.toNat):(kF n).testBit q=ui n q:=by
 unfold kF
 rw[D6]
 simp[h]
def hY(n:aY)(s:Nat):Prop:=vS n.az.toNat s (kF n)=false
theorem Da{n:aY}{s:Nat}:hY n s↔∀ q,q<n.az.toNat->s.testBit q=true->ui n q=false:=by
 unfold hY vS
 rw[oB]
 constructor
 .intro h q H hs
  have:=h q (oc.2 H)
  rw[hs,pK,Md H] at this;simpa using this
 .intro h q H
  have H:=oc.1 H;cases hs:s.testBit q with
  |false=>simp
  |true=>rw[Md H,h q H hs];simp
theorem zgx{n:aY}(H:dK n){s:Nat}(hs:s<2^n.az.toNat)(h:hY n s){c:Int}(G:1<=c):hY n (yw n.aw s c):=by
 rw[Da] at h ⊢
 intro q F E
 rw[<-Gy H s G,X3,n_] at E
 obtain⟨x,K,J⟩:=E
 simp only[nI,nD] at J
 cases L:ui n q with
 |false=>rfl
 |true=>
  rw[<-J.2] at L;have M:=zkc H K L;have:=(H.aw x K).1
  rw[h x.bl.toNat (by omega) J.1.1] at M
  cases M
theorem Me{n:aY}(H:dK n){s:Nat}(hs:s<2^n.az.toNat)(h:hY n s):s &&& yg n.aS=0:=by
 rw[Da] at h
 apply tI
 intro j
 rw[xD,Nat.testBit_and]
 cases G:s.testBit j with
 |false=>rfl
 |true=>
  rw[pK];cases F:(yg n.aS).testBit j with
  |false=>rfl
  |true=>
   have hj:j<n.az.toNat:=by
    rcases pe j n.az.toNat with E | E
    .exact E
    .have K:=Nat.testBit_lt_two_pow (i:=j) (pg hs (sM (by omega) E))
     rw[K] at G;cases G
   have J:=h j hj G;unfold ui vS at J;rw[oB] at J;have L:=J j (oc.2 hj);rw[Mc,D8 _ _ _ j (by rw[Qa];simp),F] at L
   exact absurd rfl L
def VS(a b:Rf):Bool:=decide (a.cw<b.cw) || (decide (a.cw=b.cw)&&decide (a.bT<b.bT))
theorem zkd(a b:Rf):aq prog 234 [.agg a.row,.agg b.row] (.bool (VS a b)):=by
 refine aF func234 ?_
 by_cases H:a.cw<b.cw
 .simp+decide[f234,int,Rf.row,VS,H]
 .by_cases G:a.cw=b.cw
  .simp+decide[f234,int,Rf.row,VS,H,G]
  .simp+decide[f234,int,Rf.row,VS,H,G]
theorem zoi(a:Rf):aq prog 233 [.agg a.row] (.bool (kZ a.cw&&kZ a.bT)):=by
 refine aF func233 ?_
 simp+decide[f233,int,Rf.row]
 refine zg (Vo a.cw) ?_
 cases h:kZ a.cw with
 |false=>simp+decide[int]
 |true=>
  simp+decide[int];refine zg (Vo a.bT) ?_
  simp+decide[int]
theorem zke(l:List Rf)(n:Int)(L:l.length<=1048576):cu prog 202 [wo l,int n] Wq:=by
 refine dW func202 ?_
 by_cases M:n<l.length
 .simp+decide[f202,int,wo,M]
 simp+decide[f202,int,wo,M]
 refine dg (λk:Nat=>{n:=37,next:=0,af:=[(0,.d (wo l)),(5,.d (int k))],own:=[]}) l.length (by simp+decide[int,wo]) ?_
 intro k O
 by_cases G:k<l.length
 .have H:=bG G
  obtain⟨x,ex,e1⟩:=bN G;simp+decide[int,wo,Rf.row,G,H,e1,ex];refine zg (zoi x) ?_
  cases Q:kZ x.cw&&kZ x.bT with
  |false=>simp+decide[int]
  |true=>
   by_cases E:k=0
   .subst E
    simp+decide[int,aB,wo];exact⟨1,G,by omega,by omega⟩
   .have F:(0:Int)<k:=by omega
    have K:k-1<l.length:=by omega
    obtain⟨y,ey⟩:∃ y,l[k-1]=y:=⟨_,rfl⟩;have ey1:l[k-1]?=some y:=by rw[ac K,ey]
    have t1:((k:Int)-1).toNat=k-1:=by omega
    have t2:0<=(k:Int)-1:=by omega
    have t3:(k:Int)-1<l.length:=by omega
    simp+decide[int,aB,wo,Rf.row,E,F,G,H,e1,ex,ey,ey1,t1,t2,t3,K];intro _;refine⟨by omega,by omega,?_⟩
    refine bw (zkd y x) ?_
    cases J:VS y x with
    |false=>simp+decide[int]
    |true=>
     simp+decide[int,aB,wo,F];exact⟨by omega,k+1,G,by omega,by omega⟩
 .have H:¬(k:Int)<l.length:=by omega
  simp+decide[int,wo,H]
theorem zgy(e:aP)(L:e.bj.length<=1048576):cu prog 201 [.agg e.row] (λx=>∃ n,x=int n/\(n=0->e.bj.length<=12/\∀ l∈e.bj,0<=l.kind/\l.kind<=5)):=by
 refine dW func201 ?_
 by_cases M:(12:Int)<e.bj.length
 .simp+decide[f201,int,aP.row,xo,M]
 simp+decide[f201,int,aP.row,xo,M]
 refine cl (λk:Nat=>{n:=76,next:=1,af:=[(1,.bp 0 0),(3,.d (int k))],own:=[(0,.box 102 (e.row.map .d))]})
  (λk=>k<=e.bj.length/\∀ l∈e.bj.take k,0<=l.kind/\l.kind<=5) (λk=>e.bj.length-k) 0 (by simp) (by simp+decide[int,aa,aP.row,xo]) ?_
 intro k ⟨O,Q⟩
 by_cases G:k<e.bj.length
 .have H:=bG G
  obtain⟨x,ex,e1⟩:=bN G;have aI:=yh G;rw[ex] at aI;by_cases b1:x.kind<0
  .simp+decide[int,aa,aP.row,xo,fu.row,G,H,e1,ex,b1]
  by_cases b2:5<x.kind
  .simp+decide[int,aa,aP.row,xo,fu.row,G,H,e1,ex,b1,b2]
  have J:∀ z∈e.bj.take (k+1),0<=z.kind/\z.kind<=5:=by
   intro z T;rw[aI] at T;rcases nM.1 T with h | h
   .exact Q z h
   .rw[nQ] at h;rw[h];omega
  simp+decide[int,aa,aP.row,xo,fu.row,G,H,e1,ex,b1,b2];refine zg (Vo x.dst) ?_
  cases V:kZ x.dst with
  |false=>simp+decide[int]
  |true=>
   by_cases b3:x.dst=e.id
   .simp+decide[int,b3]
   by_cases E:k=0
   .subst E
    simp+decide[int,aa,aP.row,xo,fu.row,aB,b3];exact⟨1,⟨G,J⟩,by omega,by omega⟩
   .have F:(0:Int)<k:=by omega
    have K:k-1<e.bj.length:=by omega
    obtain⟨y,ey⟩:∃ y,e.bj[k-1]=y:=⟨_,rfl⟩;have ey1:e.bj[k-1]?=some y:=by rw[ac K,ey]
    have t1:((k:Int)-1).toNat=k-1:=by omega
    have t2:0<=(k:Int)-1:=by omega
    have t3:(k:Int)-1<e.bj.length:=by omega
    by_cases c1:x.kind<y.kind
    .simp+decide[int,aa,aP.row,xo,fu.row,aB,b3,E,F,G,H,e1,ex,ey,ey1,t1,t2,t3,K,c1]
     exact λ_=>⟨by omega,by omega⟩
    .by_cases c2:x.kind=y.kind
     .by_cases c3:x.dst<=y.dst
      .simp+decide[int,aa,aP.row,xo,fu.row,aB,b3,E,F,G,H,e1,ex,ey,ey1,t1,t2,t3,K,c1,c2,c3]
       exact λ_=>⟨by omega,by omega,by omega,by omega,by omega,by omega⟩
      .simp+decide[int,aa,aP.row,xo,fu.row,aB,b3,E,F,G,H,e1,ex,ey,ey1,t1,t2,t3,K,c1,c2,c3]
       exact λ_=>⟨by omega,by omega,by omega,by omega,by omega,by omega,by omega,k+1,⟨G,J⟩,by omega,by omega⟩
     .simp+decide[int,aa,aP.row,xo,fu.row,aB,b3,E,F,G,H,e1,ex,ey,ey1,t1,t2,t3,K,c1,c2]
      exact λ_=>⟨by omega,by omega,by omega,by omega,by omega,k+1,⟨G,J⟩,by omega,by omega⟩
 .obtain rfl:k=e.bj.length:=by omega
  rw[nH] at Q;simp+decide[int,aa,aP.row,xo];exact⟨by omega,Q⟩
structure lN(inv:List bD)(e:aP):Prop extends lP inv e where
 aL:e.aL≠[]\/e.main≠0
 fewS:e.aL.length<=5
 bj:e.bj.length<=12
 kinds:∀ l∈e.bj,0<=l.kind/\l.kind<=5
 gl:∀ s∈e.aL,xI s.xe=true
theorem zgz(inv:List bD)(e:aP)(H:lV e):cu prog 149 [.agg [zL inv],.agg e.row] (λx=>∃ n,x=int n/\(n=0->lN inv e)):=by
 refine dW func149 ?_
 simp+decide[f149,int,aP.row]
 refine zE.some (by rfl) (zgd inv e H) ?_
 rintro r ⟨n,rfl,G⟩
 by_cases F:n=0
 case neg=>simp+decide[int,F]
 have G:=G F
 simp+decide[int,F]
 refine zE.some (by rfl) (zdp e H) ?_
 rintro r ⟨m,rfl,E⟩
 by_cases K:m=0
 case neg=>simp+decide[int,K]
 have E:=E K
 simp+decide[int,K]
 refine zE.some (by rfl) (zgy e H.bj) ?_
 rintro r ⟨j,rfl,J⟩
 by_cases L:j=0
 case neg=>simp+decide[int,L]
 have J:=J L
 simp+decide[int,L]
 refine zE.some (by rfl) (zke e.lk 12 H.lk) ?_
 rintro r ⟨i,rfl⟩
 simp+decide[int]
 exact λ_=>⟨G,E.1.1,E.1.2,J.1,J.2,E.2⟩
theorem Db(l:List aP)(id:Int)(H:l.length<2^40):aq prog 150 [zm l,int id] (.bool (zF l id).2):=by
 refine aF func150 ?_
 have G:=Vk l id (by omega)
 generalize zF l id=r at G ⊢
 obtain⟨e,ok⟩:=r
 simp+decide[f150,int,zm]
 refine zg G ?_
 simp+decide[int,aP.row]
structure ny(l:List aP):Prop where
 cW:l.length<=1048576
 d_:∀ e∈l,lV e
structure mI(inv:List bD)(l:List aP):Prop where
 d_:∀ e∈l,lN inv e
 up:∀ k (h:k+1<l.length),l[k].id<l[k+1].id
theorem zg0(inv:List bD)(l:List aP)(C:ny l):cu prog 90 [.agg [zL inv],zm l] (λx=>∃ n,x=int n/\(n=0->mI inv l)):=by
 have V:=C.cW
 refine dW func90 ?_
 by_cases I:(100:Int)<l.length
 .simp+decide[f90,int,zm,I]
 simp+decide[f90,int,zm,I]
 refine qg (λk:Nat=>{n:=87,next:=1,af:=[(1,.d (zm l)),(2,.bp 0 0),(13,.d (int l.length)),(14,.d (int k))],own:=[(0,.box 24 [.d (zL inv)])]})
  (λk=>k<=l.length/\(∀ e∈l.take k,lN inv e)/\∀ j (h:j+1<l.length),j+1<k->l[j].id<l[j+1].id) (λk=>l.length-k) 0 ⟨by simp,by simp,λj h N=>absurd N (by omega)⟩ (by simp+decide[int,aa,zm]) ?_
 intro k ⟨P,S,Q⟩
 by_cases E:k<l.length
 .have J:=bG E
  have W:=C.d_ l[k] (nF E);obtain⟨e,ee,e1⟩:=bN E;have aI:=yh E;rw[ee] at aI W;have hE:=zgz inv e W;refine jb mixed 2 {n:=87,next:=1,af:=[(1,.d (zm l)),(2,.bp 0 0),(13,.d (int l.length)),(14,.d (int k))],own:=[(0,.box 24 [.d (zL inv)])]} rfl (by simp+decide[yo,qL,int,zm,E,J]) ?_
  simp only[yK];refine XB (ZH (jb mixed 1 {n:=87,next:=1,af:=[(1,.d (zm l)),(2,.bp 0 0),(5,.d (int k)),(13,.d (int l.length)),(14,.d (int k))],own:=[(0,.box 24 [.d (zL inv)])]} rfl (by simp+decide[yo,qL,int,zm]) ?_)) mixed
  simp only[yK];refine XB ?_ mixed
  refine jH 5 ?_
  simp+decide[int,zm,aP.row,E,J,ee,e1];refine zE.some (by rfl) hE ?_
  rintro r ⟨n,rfl,hF⟩
  by_cases hn:n=0
  case neg=>simp+decide[int,hn]
  have hF:=hF hn;have T:∀ x∈l.take (k+1),lN inv x:=by
   intro x hx;rw[aI] at hx;rcases nM.1 hx with h | h
   .exact S x h
   .rw[nQ] at h;rw[h];exact hF
  by_cases O:k=0
  .subst O
   simp+decide[int,hn,zm,aB];exact⟨1,⟨E,T,λj h N=>absurd N (by omega)⟩,by omega,by omega⟩
  .have L:(0:Int)<k:=by omega
   have F:k-1<l.length:=by omega
   obtain⟨y,ey⟩:∃ y,l[k-1]=y:=⟨_,rfl⟩;have ey1:l[k-1]?=some y:=by rw[ac F,ey]
   have t1:((k:Int)-1).toNat=k-1:=by omega
   have t2:0<=(k:Int)-1:=by omega
   have t3:(k:Int)-1<l.length:=by omega
   by_cases c1:e.id<=y.id
   .simp+decide[int,hn,zm,aP.row,aB,O,L,E,J,e1,ee,ey,ey1,t1,t2,t3,F,c1]
    exact λ_=>⟨by omega,by omega⟩
   .simp+decide[int,hn,zm,aP.row,aB,O,L,E,J,e1,ee,ey,ey1,t1,t2,t3,F,c1]
    refine λ_=>⟨by omega,by omega,by omega,k+1,⟨E,T,λj h N=>?_⟩,by omega,by omega⟩
    by_cases hj:j+1<k
    .exact Q j h hj
    .have X:j=k-1:=by omega
     subst X;have B:k-1+1=k:=by omega
     have:l[k-1+1]=e:=by rw[<-ee];congr 1
     rw[ey,this];omega
 .obtain rfl:k=l.length:=by omega
  rw[nH] at S;refine cy ?_
  simp+decide[int,zm];have M:mI inv l:=⟨S,λj h=>Q j h h⟩
  refine dg (λk:Nat=>{n:=87,next:=1,af:=[(1,.d (zm l)),(2,.bp 0 0),(44,.d (int l.length)),(45,.d (int k))],own:=[(0,.box 24 [.d (zL inv)])]}) l.length (by simp+decide[int,aa,zm]) ?_
  intro i hi;by_cases K:i<l.length
  .have H:=bG K
   have Y:=(S l[i] (nF K)).bj;obtain⟨e,ee,e1⟩:=bN K;rw[ee] at Y;by_cases hm:e.main=0
   .simp+decide[int,zm,aP.row,xo,K,H,e1,ee,hm,aB]
    refine dg (λm:Nat=>{n:=87,next:=1,af:=[(1,.d (zm l)),(2,.bp 0 0),(7,.d (int i)),(44,.d (int l.length)),(45,.d (int i)),(69,.d (int e.bj.length)),(70,.d (int m))],own:=[(0,.box 24 [.d (zL inv)])]}) e.bj.length (by simp+decide[int,aa,zm]) ?_
    intro m Z;by_cases F:m<e.bj.length
    .have G:=bG F
     obtain⟨y,ey,ey1⟩:=bN F;simp+decide[int,zm,aP.row,xo,fu.row,K,H,e1,ee,F,G,ey,ey1,aB];refine zg (Db l y.dst (by omega)) ?_
     cases A:(zF l y.dst).2 with
     |false=>simp+decide[int]
     |true=>
      simp+decide[int,aB,zm];exact⟨by omega,m+1,F,by omega,by omega⟩
    .have G:¬(m:Int)<e.bj.length:=by omega
     simp+decide[int,zm,G,aB];exact⟨by omega,i+1,K,by omega,by omega⟩
   .simp+decide[int,zm,aP.row,xo,K,H,e1,ee,hm,aB]
    refine zg (Db l e.main (by omega)) ?_
    cases hg:(zF l e.main).2 with
    |false=>simp+decide[int]
    |true=>
     simp+decide[int,zm,aP.row,xo,K,H,e1,ee,hm,aB];refine dg (λm:Nat=>{n:=87,next:=1,af:=[(1,.d (zm l)),(2,.bp 0 0),(7,.d (int i)),(44,.d (int l.length)),(45,.d (int i)),(69,.d (int e.bj.length)),(70,.d (int m))],own:=[(0,.box 24 [.d (zL inv)])]}) e.bj.length (by simp+decide[int,aa,zm]) ?_
     intro m Z;by_cases F:m<e.bj.length
     .have G:=bG F
      obtain⟨y,ey,ey1⟩:=bN F;simp+decide[int,zm,aP.row,xo,fu.row,K,H,e1,ee,F,G,ey,ey1,aB];refine zg (Db l y.dst (by omega)) ?_
      cases A:(zF l y.dst).2 with
      |false=>simp+decide[int]
      |true=>
       simp+decide[int,aB,zm];exact⟨by omega,m+1,F,by omega,by omega⟩
     .have G:¬(m:Int)<e.bj.length:=by omega
      simp+decide[int,zm,G,aB];exact⟨by omega,i+1,K,by omega,by omega⟩
  .have H:¬(i:Int)<l.length:=by omega
   simp+decide[int,zm,H];exact M
def VT(k:Int):Int:=if k=0 then k else if k=1 then k else if k=2 then 3 else if k=3 then 2 else if k=4 then 5 else if k=5 then 4 else -1
theorem MH(k:Int):aq prog 151 [int k] (int (VT k)):=by
 refine aF func151 ?_
 unfold VT
 by_cases H:k=0
 .simp+decide[f151,int,H]
 by_cases G:k=1
 .simp+decide[f151,int,H,G]
 by_cases F:k=2
 .simp+decide[f151,int,H,G,F]
 by_cases E:k=3
 .simp+decide[f151,int,H,G,F,E]
 by_cases K:k=4
 .simp+decide[f151,int,H,G,F,E,K]
 by_cases J:k=5
 .simp+decide[f151,int,H,G,F,E,K,J]
 simp+decide[f151,int,H,G,F,E,K,J]
def VU(e:aP)(x:fu):Bool:=e.bj.any λy=>decide (y=x)
theorem zoj(e:aP)(x:fu)(K:e.bj.length<=1048576):aq prog 153 [.agg e.row,.agg x.row] (.bool (VU e x)):=by
 refine aF func153 ?_
 simp+decide[f153,int,aP.row,fu.row]
 refine cl (λk:Nat=>{n:=20,next:=2,af:=[(2,.bp 0 0),(3,.bp 1 0),(5,.d (int k))],own:=[(0,.box 102 (e.row.map .d)),(1,.box 213 (x.row.map .d))]})
  (λk=>k<=e.bj.length/\∀ y∈e.bj.take k,¬y=x) (λk=>e.bj.length-k) 0 (by simp) (by simp+decide[int,aa,aP.row,fu.row,xo]) ?_
 intro k ⟨J,L⟩
 by_cases H:k<e.bj.length
 .have G:=bG H
  have F:=nF H;have aI:=yh H;obtain⟨y,ey,e1⟩:=bN H;rw[ey] at F aI;by_cases b1:y=x
  .have:VU e x=true:=n_.2 ⟨y,F,by simpa using b1⟩
   rw[this];subst b1;simp+decide[int,aa,aP.row,xo,fu.row,H,G,e1,ey]
  .simp+decide[int,aa,aP.row,xo,fu.row,H,G,e1,ey,aB]
   have E:y.kind=x.kind->¬y.dst=x.dst:=by
    intro M O;obtain⟨a,b⟩:=y;obtain⟨c,d⟩:=x;simp only at M O
    exact b1 (by rw[M,O])
   refine⟨λM O=>absurd O (E M),λ_=>⟨by omega,k+1,⟨H,λz Q=>?_⟩,by omega,by omega⟩⟩
   rw[aI] at Q;rcases nM.1 Q with h | h
   .exact L z h
   .rw[nQ] at h;rw[h];exact b1
 .obtain rfl:k=e.bj.length:=by omega
  rw[nH] at L;have:VU e x=false:=by unfold VU;rw[oB];intro y T;simpa using L y T
  rw[this];simp+decide[int,aa,aP.row,xo]
theorem MI(l:List Int)(x:Int)(E:l.length<2^40):aq prog 154 [aa l,int x] (.bool (decide (x∈l))):=by
 refine aF func154 ?_
 simp+decide[f154,int,aa]
 refine cl (λk:Nat=>{n:=18,next:=0,af:=[(0,.d (aa l)),(1,.d (int x)),(5,.d (int k))],own:=[]})
  (λk=>k<=l.length/\∀ y∈l.take k,¬y=x) (λk=>l.length-k) 0 (by simp) (by simp+decide[int,aa]) ?_
 intro k ⟨K,J⟩
 by_cases H:k<l.length
 .have G:=bG H
  have F:=nF H;have aI:=yh H;obtain⟨y,ey,e1⟩:=bN H;rw[ey] at F aI;by_cases b1:y=x
  .subst b1
   simp+decide[int,aa,H,G,e1,ey,F]
  .simp+decide[int,aa,H,G,e1,ey,b1,aB]
   refine⟨by omega,k+1,⟨H,λz L=>?_⟩,by omega,by omega⟩
   rw[aI] at L;rcases nM.1 L with h | h
   .exact J z h
   .rw[nQ] at h;rw[h];exact b1
 .obtain rfl:k=l.length:=by omega
  rw[nH] at J;have M:¬x∈l:=λh=>J x h rfl
  simp+decide[int,aa,M]
def wS(l:List aP)(kind:Int)(s:List Bool×List Int)(x:fu):List Bool×List Int:=
 if x.kind=kind/\0<=xp l x.dst/\s.1[(xp l x.dst).toNat]?.getD true=false then (s.1.set (xp l x.dst).toNat true,s.2++[x.dst]) else s
def kH(l:List aP)(kind:Int)(s:List Bool×List Int)(t:Int):List Bool×List Int:=(zF l t).1.bj.foldl (wS l kind) s
def MJ(l:List aP)(kind:Int)(s:List Bool×List Int):List Bool×List Int:=s.2.foldl (kH l kind) (s.1,[])
def rN(l:List aP)(id kind:Int):Nat->List Bool×List Int
 |0=>(List.replicate l.length false,[id])
 |n+1=>MJ l kind (rN l id kind n)
def Zl(l:List aP)(s:List Bool)(k:Nat):List Int:=((List.range k).filter λj=>s[j]?.getD false).map λj=>((l[j]?).map aP.id).getD 0
def X5(l:List aP)(id kind:Int):List Int:=Zl l (rN l id kind (l.length+1)).1 l.length
theorem zkf(l:List aP)(kind:Int)(s:List Bool×List Int)(x:fu):(wS l kind s x).1.length=s.1.length/\(wS l kind s x).2.length<=s.2.length+1:=by
 unfold wS;split <;> simp
theorem Df(l:List aP)(kind:Int):∀ (xs:List fu) (s:List Bool×List Int),(xs.foldl (wS l kind) s).1.length=s.1.length/\(xs.foldl (wS l kind) s).2.length<=s.2.length+xs.length
 | [],s=>⟨rfl,nJ _⟩
 |x::xs,s=>by
  have H:=zkf l kind s x;have G:=Df l kind xs (wS l kind s x);rw[oK,nP];exact⟨G.1.trans H.1,by omega⟩
theorem MK{l:List aP}(H:∀ e∈l,e.bj.length<=12)(t:Int):(zF l t).1.bj.length<=12:=by
 rcases ki l t with⟨_,G⟩ | ⟨j,hj,_,G⟩
 .rw[G];simp[aP.zero]
 .rw[G];exact H _ (nF hj)
theorem Dh{l:List aP}(H:∀ e∈l,e.bj.length<=12)(kind:Int):∀ (ts:List Int) (s:List Bool×List Int),(ts.foldl (kH l kind) s).1.length=s.1.length/\(ts.foldl (kH l kind) s).2.length<=s.2.length+12*ts.length
 | [],s=>⟨rfl,by simp⟩
 |t::ts,s=>by
  have G:=Df l kind (zF l t).1.bj s;have F:=MK H t;have E:=Dh H kind ts (kH l kind s t);rw[oK,nP];unfold kH at E ⊢;exact⟨E.1.trans G.1,by omega⟩
theorem ML{l:List aP}(H:∀ e∈l,e.bj.length<=12)(id kind:Int):∀ n,(rN l id kind n).1.length=l.length/\(rN l id kind n).2.length<=12^n
 |0=>by simp[rN]
 |n+1=>by
  have h:=ML H id kind n;have G:=Dh H kind (rN l id kind n).2 ((rN l id kind n).1,[]);unfold rN MJ;simp only[pc,pG] at G;refine⟨G.1.trans h.1,oC G.2 ?_⟩
  rw[At];omega
theorem zkg(l:List aP)(s:List Bool)(k:Nat):Zl l s (k+1)=Zl l s k++(if s[k]?.getD false=true then [((l[k]?).map aP.id).getD 0] else []):=by
 unfold Zl
 rw[qr,pm,oF]
 congr 1
 by_cases h:s[k]?.getD false=true
 .simp[h]
 .simp[h]
theorem MM(l:List aP)(s:List Bool)(k:Nat):(Zl l s k).length<=k:=by
 unfold Zl
 rw[om]
 have:=oz (λj=>s[j]?.getD false) (List.range k)
 simpa using this
def rB(l:List Bool):List (List D):=l.map λb=>[.bool b]
def rI(l:List Int):List (List D):=l.map λn=>[int n]
def rH(l:List aP)(id kind:Int)(i:Nat):St:=
 {n:=110,next:=3,af:=[(0,.d (zm l)),(1,.d (int id)),(2,.d (int kind)),(7,.ar 1),(8,.d (aa (rN l id kind i).2)),(9,.d (int i))],own:=[(1,.aQ 4 1 (rB (rN l id kind i).1))],aA:=[3]}
def rM(l:List aP)(id kind:Int)(i:Nat)(todo:List Int)(s:List Bool×List Int):St:=
 {n:=110,next:=4,af:=[(0,.d (zm l)),(1,.d (int id)),(2,.d (int kind)),(7,.ar 1),(8,.d (aa todo)),(9,.d (int i)),(10,.ar 3)],own:=[(1,.aQ 4 1 (rB s.1)),(3,.aQ 3 1 (rI s.2))],aA:=[3]}
def WX(l:List aP)(id kind:Int)(i:Nat)(todo:List Int)(j:Nat)(s:List Bool×List Int):St:=
 {n:=110,next:=4,af:=[(0,.d (zm l)),(1,.d (int id)),(2,.d (int kind)),(7,.ar 1),(8,.d (aa todo)),(9,.d (int i)),(10,.ar 3),(11,.d (int j))],own:=[(1,.aQ 4 1 (rB s.1)),(3,.aQ 3 1 (rI s.2))],aA:=[3]}
def rL(l:List aP)(id kind:Int)(i:Nat)(todo:List Int)(j:Nat)(f:Int)(m:Nat)(s:List Bool×List Int):St:=
 {n:=110,next:=4,af:=[(0,.d (zm l)),(1,.d (int id)),(2,.d (int kind)),(7,.ar 1),(8,.d (aa todo)),(9,.d (int i)),(10,.ar 3),(11,.d (int j)),(12,.d (int f)),(13,.d (int m))],own:=[(1,.aQ 4 1 (rB s.1)),(3,.aQ 3 1 (rI s.2))],aA:=[3]}
theorem MN(l:List aP)(id kind:Int)(hl:l.length<=5)(hk:∀ e∈l,e.bj.length<=12):aq prog 155 [zm l,int id,int kind] (aa (X5 l id kind)):=by
 refine aF func155 ?_
 simp+decide[f155,int,zm]
 refine⟨by omega,by unfold maxLen;omega,?_⟩
 refine ZI [2] ?_
 refine xP (rH l id kind) (l.length+1) (by simp+decide[rH,rN,int,aa,zm,rB]) ?_
 intro i hi
 obtain⟨n1,n2⟩:=ML hk id kind i
 have N:12^i<=12^6:=sM (by omega) (by omega)
 by_cases W:i<l.length+1
 .have Q:(i:Int)<=l.length:=by omega
  refine jb mixed 1 (rH l id kind i) rfl (by simp+decide[rH,yo,qL,int,zm,Q]) ?_
  simp only[yK];refine XB (ZH (jb mixed 2 (rM l id kind i (rN l id kind i).2 (rN l id kind (i+1))) rfl ?_ ?_)) mixed
  .unfold rH
   have n3:(rN l id kind i).2.length<=2985984:=oC n2 (oC N (by decide))
   have G:rN l id kind (i+1)=(rN l id kind i).2.foldl (kH l kind) ((rN l id kind i).1,[]):=rfl
   generalize rN l id kind (i+1)=nx at G;generalize rN l id kind i=cur at G n1 n2 n3 ⊢;obtain⟨seen,todo⟩:=cur;simp only at G n1 n2 n3
   simp+decide[rH,yo,int,zm];have A:(seen,[])=(([]:List Int).foldl (kH l kind) (seen,[])):=rfl
   refine dg (λj:Nat=>WX l id kind i todo j ((todo.take j).foldl (kH l kind) (seen,[]))) todo.length (by simp+decide[WX,int,aa,zm,rB,rI]) ?_
   intro j hj;obtain⟨m1,m2⟩:=Dh hk kind (todo.take j) (seen,[]);rw[nR] at m2;simp only[pc,pG] at m1 m2;by_cases K:j<todo.length
   case neg=>
    obtain rfl:j=todo.length:=by omega
    rw[nH,<-G];simp+decide[WX,rM,int,aa,zm,qL];done
   have T:=bG K;have aI:(todo.take (j+1)).foldl (kH l kind) (seen,[])=kH l kind ((todo.take j).foldl (kH l kind) (seen,[])) todo[j]:=by rw[yh K,oI];rfl
   obtain⟨t,et,et1⟩:=bN K;rw[et] at aI;generalize (todo.take j).foldl (kH l kind) (seen,[])=s0 at aI m1 m2;have hF:=G6 l t (by omega)
   have F:=MK hk t;have V:kH l kind s0 t=(zF l t).1.bj.foldl (wS l kind) s0:=rfl
   rw[V] at aI;simp+decide[WX,int,aa,zm,K,T,et,et1];refine zg hF ?_
   simp+decide[int,aa,zm];refine dg (λm:Nat=>rL l id kind i todo j (xp l t) m (((zF l t).1.bj.take m).foldl (wS l kind) s0)) ((zF l t).1.bj.length) (by simp+decide[rL,int,aa,zm,rB,rI]) ?_
   intro m hm;rcases ki l t with⟨f1,f2⟩ | ⟨q,hq,f1,f2⟩
   .have hz:(zF l t).1.bj=[]:=by rw[f2];rfl
    rw[hz] at hm aI ⊢;have P:m=0:=by simpa using hm
    subst P;have S:¬0<=xp l t:=by omega
    simp only[List.take_zero,List.foldl_nil] at aI ⊢;simp+decide[rL,int,aa,zm,S,aB];exact⟨by omega,j+1,K,by omega,by omega,by rw[aI],by rw[aI]⟩
   .rw[f2] at hm aI F ⊢
    simp only at hm aI F ⊢
    rw[f1];obtain⟨e,ee,eq1⟩:=bN hq;have B:(q:Int)<l.length:=by omega
    rw[ee] at hm aI F ⊢;by_cases E:m<e.bj.length
    case neg=>
     obtain rfl:m=e.bj.length:=by omega
     rw[nH,<-aI];simp+decide[rL,int,aa,zm,hq,B,ee,eq1,aP.row,xo,aB];exact⟨by omega,j+1,K,by omega,by omega,rfl,rfl⟩
    have X:=bG E;obtain⟨p1,p2⟩:=Df l kind (e.bj.take m) s0;rw[nR] at p2;have H:(e.bj.take (m+1)).foldl (wS l kind) s0=wS l kind ((e.bj.take m).foldl (wS l kind) s0) e.bj[m]:=by rw[yh E,oI];rfl
    obtain⟨x,ex,ex1⟩:=bN E;rw[ex] at H;generalize (e.bj.take m).foldl (wS l kind) s0=s1 at H p1 p2;have hG:=G6 l x.dst (by omega)
    have J:wS l kind s1 x=if x.kind=kind/\0<=xp l x.dst/\s1.1[(xp l x.dst).toNat]?.getD true=false then (s1.1.set (xp l x.dst).toNat true,s1.2++[x.dst]) else s1:=rfl
    rw[J] at H;simp+decide[rL,int,aa,zm,hq,B,ee,eq1,aP.row,xo,fu.row,aB,E,X,ex,ex1];refine zg hG ?_
    by_cases k1:x.kind=kind
    case neg=>
     rw[ge (λh=>k1 h.1)] at H
     simp+decide[int,k1,aB];exact⟨by omega,m+1,E,by omega,by omega,by rw[H],by rw[H]⟩
    rcases ki l x.dst with⟨g1,g2⟩ | ⟨u,hu,g1,g2⟩
    .have C:¬0<=xp l x.dst:=by omega
     rw[ge (λh=>C h.2.1)] at H
     simp+decide[int,k1,C,aB];exact⟨by omega,m+1,E,by omega,by omega,by rw[H],by rw[H]⟩
    .have Y:u<s1.1.length:=by omega
     obtain⟨b,eb,eb1⟩:=bN Y;rw[g1] at H;simp only[pR,eb1,nW] at H;have I:(u:Int)<s1.1.length:=by omega
     cases b with
     |true=>
      rw[ge (λh=>by cases h.2.2)] at H
      simp+decide[int,k1,g1,rB,Y,I,eb,eb1,aB];exact⟨by omega,m+1,E,by omega,by omega,by rw[H],by rw[H]⟩
     |false=>
      rw[gt ⟨k1,by omega,rfl⟩] at H
      simp+decide[int,k1,g1,rB,rI,Y,I,eb,eb1,aB];exact⟨by omega,by unfold maxLen;omega,by omega,m+1,E,by omega,by omega,by rw[H];simp[sh],by rw[H];simp⟩
  .simp only[yK]
   refine ZI [3] ?_
   refine cy ?_
   simp+decide[rM,int,zm];exact⟨⟨by omega,by omega⟩,i+1,by omega,by omega,by simp+decide[rH,int,aa,zm,rB,rI]⟩
 .obtain rfl:i=l.length+1:=by omega
  refine cy ?_
  have hn:¬(l.length:Int)+1<=l.length:=by omega
  simp+decide[rH,int,zm,hn];have L:X5 l id kind=Zl l (rN l id kind (l.length+1)).1 l.length:=rfl
  generalize (rN l id kind (l.length+1)).1=seen at L n1 ⊢;refine dg (λk:Nat=>{n:=110,next:=4,af:=[(0,.d (zm l)),(7,.ar 1),(16,.ar 3),(17,.d (int k))],own:=[(1,.aQ 4 1 (rB seen)),(3,.aQ 3 1 (rI (Zl l seen k)))],aA:=[3]}) l.length (by simp+decide[int,aa,zm,rB,rI,Zl]) ?_
  intro k H0;have H1:=MM l seen k;by_cases F:k<l.length
  .have M:=bG F
   have Z:k<seen.length:=by omega
   have O:(k:Int)<seen.length:=by omega
   have aI:=zkg l seen k;obtain⟨e,ee,e1⟩:=bN F;obtain⟨b,eb,eb1⟩:=bN Z;rw[e1,eb1] at aI;cases b with
   |false=>
    simp only[nW,ou,oU,oq] at aI;simp+decide[int,aa,zm,rB,F,M,Z,O,ee,e1,eb,eb1,aB];exact⟨by omega,k+1,F,by omega,by omega,by rw[aI]⟩
   |true=>
    simp only[nW,oV,oL] at aI;simp+decide[int,aa,zm,rB,rI,aP.row,F,M,Z,O,ee,e1,eb,eb1,aB];exact⟨by omega,by unfold maxLen;omega,by omega,k+1,F,by omega,by omega,by rw[aI];simp⟩
  .obtain rfl:k=l.length:=by omega
   rw[L];simp+decide[int,aa,zm,rI]
theorem MO(l:List aP)(id kind:Int):(X5 l id kind).length<=l.length:=MM _ _ _
theorem zg1(l:List aP)(T:l.length<=5)(V:∀ e∈l,e.bj.length<=12):cu prog 91 [zm l] Wq:=by
 refine dW func91 ?_
 simp+decide[f91,int,zm]
 refine dg (λi:Nat=>{n:=91,next:=0,af:=[(0,.d (zm l)),(3,.d (int i))],own:=[]}) l.length (by simp+decide[int,zm]) ?_
 intro i hi
 by_cases F:i<l.length
 .have H:=bG F
  have M:=V l[i] (nF F);obtain⟨e,ee,e1⟩:=bN F;rw[ee] at M;simp+decide[int,zm,H];refine dg (λk:Nat=>{n:=91,next:=0,af:=[(0,.d (zm l)),(3,.d (int i)),(4,.d (int k))],own:=[]}) e.bj.length (by simp+decide[int,zm]) ?_
  intro k Q;by_cases J:k<e.bj.length
  .have E:=bG J
   obtain⟨x,ex,ex1⟩:=bN J;simp+decide[int,zm,aP.row,xo,fu.row,F,H,ee,e1,J,E,ex,ex1];refine zg (MH x.kind) ?_
   by_cases c1:VT x.kind<0
   .simp+decide[int,c1]
   simp+decide[int,zm,c1];refine zg (G6 l x.dst (by omega)) ?_
   rcases ki l x.dst with⟨g1,g2⟩ | ⟨u,X,g1,g2⟩
   .simp+decide[int,g1]
   .have L:(u:Int)<l.length:=by omega
    have O:=V l[u] (nF X);obtain⟨y,ey,ey1⟩:=bN X;rw[ey] at O;have Y:=zoj y ⟨VT x.kind,e.id⟩ (by omega)
    rw[g1];simp+decide[int,zm,aP.row,xo,fu.row,F,H,ee,e1,X,L,ey,ey1];refine bw (MH x.kind) ?_
    simp+decide[int,zm,aP.row,xo,fu.row,F,H,ee,e1,X,L,ey,ey1];refine bw Y ?_
    cases Z:VU y ⟨VT x.kind,e.id⟩ with
    |false=>simp+decide[int]
    |true=>
     simp+decide[int,aB,zm];exact⟨by omega,k+1,J,by omega,by omega⟩
  .have E:¬(k:Int)<e.bj.length:=by omega
   simp+decide[int,zm,aP.row,xo,F,H,ee,e1,E,aB];exact⟨by omega,i+1,F,by omega,by omega⟩
 .have H:¬(i:Int)<l.length:=by omega
  simp+decide[int,zm,H];refine dg (λi:Nat=>{n:=91,next:=0,af:=[(0,.d (zm l)),(7,.d (int i))],own:=[]}) l.length (by simp+decide[int,zm]) ?_
  intro j hj;by_cases K:j<l.length
  .have G:=bG K
   obtain⟨e,ee,e1⟩:=bN K;have r2:=MO l e.id 2;have r4:=MO l e.id 4;simp+decide[int,zm,aP.row,K,G,ee,e1];refine bw (MN l e.id 2 T V) ?_
   simp+decide[int,aa,zm,aP.row,K,G,ee,e1];refine bw (MI (X5 l e.id 2) e.id (by omega)) ?_
   by_cases m2:e.id∈X5 l e.id 2
   .simp+decide[int,m2]
   simp+decide[int,zm,aP.row,K,G,ee,e1,m2];refine bw (MN l e.id 4 T V) ?_
   simp+decide[int,aa,zm,aP.row,K,G,ee,e1,m2];refine bw (MI (X5 l e.id 4) e.id (by omega)) ?_
   by_cases m4:e.id∈X5 l e.id 4
   .simp+decide[int,m2,m4]
   .simp+decide[int,m2,m4,aB,zm]
    exact⟨by omega,j+1,K,by omega,by omega⟩
  .have G:¬(j:Int)<l.length:=by omega
   simp+decide[int,zm,G]
structure mi(l:List aP):Prop where
 main:∀ e∈l,e.main≠0->0<=xp l e.main
 ends:∀ e∈l,(qk l (l.length+1) e.id).length<=l.length
theorem zg2(l:List aP)(J:l.length<=1048576):cu prog 92 [zm l] (λx=>∃ n,x=int n/\(n=0->mi l)):=by
 refine dW func92 ?_
 simp+decide[f92,int,zm]
 refine cl (λi:Nat=>{n:=44,next:=0,af:=[(0,.d (zm l)),(3,.d (int i))],own:=[]}) (λi=>i<=l.length/\∀ e∈l.take i,e.main≠0->0<=xp l e.main) (λi=>l.length-i) 0 (by simp) (by simp+decide[int,zm]) ?_
 intro i ⟨hi,L⟩
 by_cases H:i<l.length
 .have G:=bG H
  obtain⟨e,ee,e1⟩:=bN H;have aI:=yh H;rw[ee] at aI;have K:(e.main≠0->0<=xp l e.main)->∀ x∈l.take (i+1),x.main≠0->0<=xp l x.main:=by
   intro h x M;rw[aI] at M;rcases nM.1 M with O | O
   .exact L x O
   .rw[nQ] at O;rw[O];exact h
  by_cases Q:e.main=0
  .have T:=K (λh=>absurd Q h)
   simp+decide[int,zm,aP.row,H,G,ee,e1,Q,aB];exact⟨by omega,i+1,⟨H,T⟩,by omega,by omega⟩
  .simp+decide[int,zm,aP.row,H,G,ee,e1,Q,aB]
   refine zg (W9 l e.main (by omega)) ?_
   by_cases c1:xp l e.main<0
   .simp+decide[int,c1]
   .have T:=K (λ_=>by omega)
    simp+decide[int,c1,aB,zm];exact⟨by omega,i+1,⟨H,T⟩,by omega,by omega⟩
 .obtain rfl:i=l.length:=by omega
  rw[nH] at L;simp+decide[int,zm];refine cl (λi:Nat=>{n:=44,next:=0,af:=[(0,.d (zm l)),(4,.d (int i))],own:=[]}) (λi=>i<=l.length/\∀ e∈l.take i,(qk l (l.length+1) e.id).length<=l.length) (λi=>l.length-i) 0 (by simp) (by simp+decide[int,zm]) ?_
  intro j ⟨hj,V⟩;by_cases F:j<l.length
  .have E:=bG F
   obtain⟨e,ee,e1⟩:=bN F;have aI:=yh F;rw[ee] at aI;simp+decide[int,zm,aP.row,F,E,ee,e1,aB];refine zg (EM l e.id (by omega)) ?_
   by_cases c1:l.length<(qk l (l.length+1) e.id).length
   .have c1':(l.length:Int)<(qk l (l.length+1) e.id).length:=by omega
    simp+decide[int,aa,zm,c1,c1']
   .have c1':¬(l.length:Int)<(qk l (l.length+1) e.id).length:=by omega
    simp+decide[int,aa,zm,c1,c1',aB];refine⟨by omega,j+1,⟨F,λx M=>?_⟩,by omega,by omega⟩
    rw[aI] at M;rcases nM.1 M with O | O
    .exact V x O
    .rw[nQ] at O;rw[O];omega
  .obtain rfl:j=l.length:=by omega
   rw[nH] at V;simp+decide[int,zm];exact⟨L,V⟩
theorem Di{s:ByteArray}(h:xI s=true):0<s.size/\s.size<=32:=by
 unfold xI at h
 simp only[nI,nD] at h
 omega
structure fg(u:bo):Prop where
 pos:0<u.bg.size
 size:u.bg.size<=32
 bi:1<=u.bi.length
 cW:u.bi.length<=3
 lab:xI u.bg=true
theorem zd6(s:ByteArray)(hs:s.size<=1048576):cu prog 145 [.str s] (λx=>∃ b,x = .bool b/\(b=true->xI s=true)):=by
 refine dW func145 ?_
 simp+decide[f145,int]
 refine dg (λk:Nat=>{n:=16,next:=0,af:=[(0,.d (.str s)),(3,.d (int k))],own:=[]}) s.size (by simp+decide[int]) ?_
 intro k F
 by_cases G:k<s.size
 .have H:=bG G
  have e1:cY s (k:Int)=(zC s k:Int):=ZU s k
  by_cases b1:(zC s k:Int)=32
  .simp+decide[int,G,H,e1,b1]
  .simp+decide[int,G,H,e1,b1,aB]
   exact⟨by omega,k+1,G,by omega,by omega⟩
 .have H:¬(k:Int)<s.size:=by omega
  simp+decide[int,H];refine zg (Hu s hs) ?_
  simp+decide[int]
theorem zg3(inv:List bD)(o:bb)(Q:eO o)(i:Nat)(hi:i<o.au.length)(T:inv.length<2^40):cu prog 144 [.agg [zL inv],.agg o.cells,int i] (λx=>∃ n,x=int n/\(n=0->∀ u,o.au[i]?=some u->fg u)):=by
 refine dW func144 ?_
 have M:(i:Int)<o.au.length:=by omega
 have V:=Q.au o.au[i] (nF hi)
 have O:=Q.cW.1
 obtain⟨u,eu,eu1⟩:=bN hi
 rw[eu] at V
 rw[eu1]
 simp+decide[f144,int,bb.cells,zJ,hi,M,eu,eu1,bo.row]
 refine zE.some (by rfl) (zd6 u.bg V.1) ?_
 rintro r ⟨b,rfl,G⟩
 cases b with
 |false=>simp+decide[int]
 |true=>
  have G:=G rfl;simp+decide[int];refine dg (λk:Nat=>{n:=67,next:=3,af:=[(2,.d (int i)),(3,.bp 0 0),(4,.bp 1 0),(7,.bp 2 0),(8,.d (int k))],own:=[(0,.box 24 [.d (zL inv)]),(1,.box 28 (o.cells.map .d)),(2,.box 143 [.d (.str u.bg),.d (aa u.bi)])]}) i (by simp+decide[int,aa,bb.cells,zJ,bo.row]) ?_
  intro k X;by_cases E:k<i
  .have H:(k:Int)<i:=by omega
   have L:k<o.au.length:=by omega
   have J:(k:Int)<o.au.length:=by omega
   obtain⟨x,ex,ex1⟩:=bN L;by_cases b1:x.bg=u.bg
   .simp+decide[int,aa,bb.cells,zJ,bo.row,E,H,L,J,ex,ex1,b1]
   .simp+decide[int,aa,bb.cells,zJ,bo.row,E,H,L,J,ex,ex1,b1,aB]
    first | exact λ_=>⟨by omega,k+1,E,by omega,by omega⟩ | exact⟨by omega,k+1,E,by omega,by omega⟩
  .have H:¬(k:Int)<i:=by omega
   by_cases c1:(u.bi.length:Int)<1
   .simp+decide[int,aa,bb.cells,zJ,bo.row,E,H,c1]
   .by_cases c2:(3:Int)<u.bi.length
    .simp+decide[int,aa,bb.cells,zJ,bo.row,E,H,c1,c2]
    .simp+decide[int,aa,bb.cells,zJ,bo.row,E,H,c1,c2]
     refine dg (λm:Nat=>{n:=67,next:=3,af:=[(2,.d (int i)),(3,.bp 0 0),(4,.bp 1 0),(7,.bp 2 0),(9,.d (int m))],own:=[(0,.box 24 [.d (zL inv)]),(1,.box 28 (o.cells.map .d)),(2,.box 143 [.d (.str u.bg),.d (aa u.bi)])]}) u.bi.length (by simp+decide[int,aa,bb.cells,zJ,bo.row]) ?_
     intro m Y;by_cases K:m<u.bi.length
     .have F:=bG K
      obtain⟨y,ey,ey1⟩:=bN K;by_cases b1:y<1
      .simp+decide[int,aa,K,F,ey,ey1,b1]
      .by_cases b2:(inv.length:Int)<y
       .simp+decide[int,aa,zL,K,F,ey,ey1,b1,b2]
       .simp+decide[int,aa,zL,K,F,ey,ey1,b1,b2,aB]
        exact⟨by omega,m+1,K,by omega,by omega,by simp[bb.cells,ah.a_,ah.lo]⟩
     .have F:¬(m:Int)<u.bi.length:=by omega
      simp+decide[int,aa,F];exact⟨(Di G).1,(Di G).2,by omega,by omega,G⟩
theorem zd7(inv:List bD)(o:bb)(Y:eO o)(Z:inv.length<2^40):cu prog 87 [.agg [zL inv],.agg o.cells] (λx=>∃ n,x=int n/\(n=0->∀ u∈o.au,fg u)):=by
 have Q:=Y.cW
 refine dW func87 ?_
 simp+decide[f87,int,bb.cells]
 refine zg (H9 o.name (by have:=Y.name;omega)) ?_
 cases X:fc o.name with
 |false=>simp+decide[int]
 |true=>
  by_cases A:(100:Int)<o.au.length
  .simp+decide[int,zJ,A]
  simp+decide[int,zJ,A];refine cl (λk:Nat=>{n:=79,next:=2,af:=[(2,.bp 0 0),(3,.bp 1 0),(5,.d (int k))],own:=[(0,.box 24 [.d (zL inv)]),(1,.box 28 (o.cells.map .d))]})
   (λk=>k<=o.au.length/\∀ u∈o.au.take k,fg u) (λk=>o.au.length-k) 0 (by simp) (by simp+decide[int,zJ,bb.cells]) ?_
  intro k ⟨B,M⟩;by_cases K:k<o.au.length
  .have G:=bG K
   simp+decide[int,zJ,K,G,bb.cells];refine zE.some (by rfl) (zg3 inv o Y k K Z) ?_
   rintro r ⟨e,rfl,O⟩
   by_cases C:e=0
   .subst C
    simp+decide[int,aB];exact⟨by omega,k+1,⟨K,λu I=>by
     rw[yh K] at I;rcases nM.1 I with h | h
     .exact M u h
     .rw[nQ] at h
      exact O rfl u (by rw[ac K,h])⟩,by omega,by simp[bb.cells,ah.a_,ah.lo,zJ]⟩
   .simp+decide[int,C]
  .have G:¬(k:Int)<o.au.length:=by omega
   obtain rfl:k=o.au.length:=by omega
   rw[nH] at M;by_cases N:(100:Int)<o.cA.length
   .simp+decide[int,zJ,wK,G,N,bb.cells]
   simp+decide[int,zJ,wK,G,N,bb.cells];refine cl (λx:Nat×List ByteArray=>{n:=79,next:=3,af:=[(2,.bp 0 0),(3,.bp 1 0),(7,.ar 2),(8,.d (int x.1))],own:=[(0,.box 24 [.d (zL inv)]),(1,.box 28 (o.cells.map .d)),(2,.aQ 9 1 (x.2.map λs=>[.str s]))],aA:=[2]})
    (λx=>x.1<=o.cA.length/\x.2.length<=x.1*1048576) (λx=>o.cA.length-x.1) (0,[]) (by simp) (by simp+decide[int,zJ,wK,bb.cells]) ?_
   rintro⟨i,seen⟩ ⟨hi,hs⟩
   simp only at hi hs
   by_cases F:i<o.cA.length
   .have H:=bG F
    have P:=Y.cA o.cA[i] (nF F);obtain⟨L,eL,eL1⟩:=bN F;rw[eL] at P;by_cases S:L.length=0
    .simp+decide[int,zJ,wK,bb.cells,F,H,eL,eL1,S]
    have T:¬(L.length:Int)=0:=by omega
    simp+decide[int,zJ,wK,bb.cells,F,H,eL,eL1,S,T];refine cl (λx:Nat×List ByteArray=>{n:=79,next:=3,af:=[(2,.bp 0 0),(3,.bp 1 0),(7,.ar 2),(8,.d (int i)),(9,.d (int x.1))],own:=[(0,.box 24 [.d (zL inv)]),(1,.box 28 (o.cells.map .d)),(2,.aQ 9 1 (x.2.map λs=>[.str s]))],aA:=[2]})
     (λx=>x.1<=L.length/\x.2.length<=i*1048576+x.1) (λx=>L.length-x.1) (0,seen) (by simpa using hs) (by simp+decide[int,zJ,wK,bb.cells]) ?_
    rintro⟨m,sn⟩ ⟨W,V⟩
    simp only at W V
    by_cases J:m<L.length
    .have E:=bG J
     have hS:=P.2 L[m] (nF J);obtain⟨y,ey,ey1⟩:=bN J;rw[ey] at hS;simp+decide[int,zJ,wK,bb.cells,F,H,eL,eL1,J,E,ey,ey1];refine zE.some (by rfl) (zf5 y hS) ?_
     rintro r ⟨b,rfl⟩
     cases b with
     |false=>simp+decide[int]
     |true=>
      simp+decide[int];refine zE.some (by rfl) (zni sn y (by omega)) ?_
      rintro r ⟨b,rfl⟩
      cases b with
      |true=>simp+decide[int]
      |false=>
       simp+decide[int,aB];exact⟨by omega,by unfold maxLen;omega,by omega,m+1,sn++[y],⟨J,by rw[nO];simp;omega⟩,by omega,by omega,by simp⟩
    .have E:¬(m:Int)<L.length:=by omega
     simp+decide[int,zJ,wK,bb.cells,F,H,eL,eL1,E,aB];exact⟨by omega,i+1,sn,⟨F,by omega⟩,by omega,by omega,rfl⟩
   .have H:¬(i:Int)<o.cA.length:=by omega
    simp+decide[int,zJ,wK,H,bb.cells];exact M
structure lu(l:List aP):Prop where
 cW:l.length<=5
 aK:∀ e∈l,e.du.length<=3/\e.cm.length<=1/\∀ w∈e.cm,w.length<=3
theorem zg4(l:List aP)(J:l.length<=1048576):cu prog 38 [zm l] (λx=>∃ b,x = .bool b/\(b=true->lu l)):=by
 refine dW func38 ?_
 by_cases L:(5:Int)<l.length
 .simp+decide[f38,int,zm,L]
 simp+decide[f38,int,zm,L]
 refine cl (λi:Nat=>{n:=50,next:=0,af:=[(0,.d (zm l)),(3,.d (int i))],own:=[]}) (λi=>i<=l.length/\∀ e∈l.take i,e.du.length<=3/\e.cm.length<=1/\∀ w∈e.cm,w.length<=3) (λi=>l.length-i) 0 (by simp) (by simp+decide[int,zm]) ?_
 intro i ⟨hi,M⟩
 by_cases G:i<l.length
 .have H:=bG G
  obtain⟨e,ee,e1⟩:=bN G;have aI:=yh G;rw[ee] at aI;by_cases c1:(3:Int)<e.du.length
  .simp+decide[int,aa,zm,aP.row,G,H,ee,e1,c1]
  by_cases c2:(1:Int)<e.cm.length
  .simp+decide[int,aa,zm,yk,aP.row,G,H,ee,e1,c1,c2]
  simp+decide[int,aa,zm,yk,aP.row,G,H,ee,e1,c1,c2];refine cl (λk:Nat=>{n:=50,next:=0,af:=[(0,.d (zm l)),(3,.d (int i)),(4,.d (int k))],own:=[]}) (λk=>k<=e.cm.length/\∀ w∈e.cm.take k,w.length<=3) (λk=>e.cm.length-k) 0 (by simp) (by simp+decide[int,zm]) ?_
  intro k ⟨O,Q⟩;by_cases F:k<e.cm.length
  .have E:=bG F
   obtain⟨w,ew,ew1⟩:=bN F;have K:=yh F;rw[ew] at K;by_cases c3:(3:Int)<w.length
   .simp+decide[int,aa,zm,yk,aP.row,G,H,ee,e1,F,E,ew,ew1,c3]
   .simp+decide[int,aa,zm,yk,aP.row,G,H,ee,e1,F,E,ew,ew1,c3,aB]
    refine⟨by omega,k+1,⟨F,λx T=>?_⟩,by omega,by omega⟩
    rw[K] at T;rcases nM.1 T with V | V
    .exact Q x V
    .rw[nQ] at V;rw[V];omega
  .obtain rfl:k=e.cm.length:=by omega
   rw[nH] at Q;simp+decide[int,aa,zm,yk,aP.row,G,H,ee,e1,aB];refine⟨by omega,i+1,⟨G,λx T=>?_⟩,by omega,by omega⟩
   rw[aI] at T;rcases nM.1 T with V | V
   .exact M x V
   .rw[nQ] at V;rw[V];exact⟨by omega,by omega,Q⟩
 .obtain rfl:i=l.length:=by omega
  rw[nH] at M;simp+decide[int,zm];exact⟨by omega,M⟩
structure bC(g:aj):Prop where
 inv:Hh g.inv
 bt:eO g.bt
 ba:lK g.ba
 aw:g.bM.aw.length<=1048576
 aS:g.bM.aS.length<=1048576
 aM:ny g.aM
structure iC(g:aj):Prop where
 ba:∀ r∈g.ba,gE r
 Xw:∀ r∈g.ba,Wu g.inv r
 bM:nk g.bM
 aM:mI g.inv g.aM
 main:mi g.aM
 fi:∀ u∈g.bt.au,fg u
theorem iC.fG{g:aj}(h:iC g):∀ u∈g.bt.au,0<u.bg.size:=λu H=>(h.fi u H).pos
theorem zg5(g:aj)(G:bC g)(F:g.aM.length<=5):cu prog 39 [g.d] (λx=>∃ n,x=int n/\(n=0->iC g)):=by
 have H:=G.inv.1
 refine dW func39 ?_
 simp+decide[f39,int,aj.d]
 refine zE.some (by rfl) (zf8 g.inv G.inv) ?_
 rintro r ⟨n,rfl⟩
 by_cases z1:n=0
 case neg=>simp+decide[int,z1]
 simp+decide[int,z1]
 refine zE.some (by rfl) (zd7 g.inv g.bt G.bt (by omega)) ?_
 rintro r ⟨n,rfl,E⟩
 by_cases z2:n=0
 case neg=>simp+decide[int,z2]
 have E:=E z2
 simp+decide[int,z2]
 refine zE.some (by rfl) (zgb g G.ba) ?_
 rintro r ⟨n,rfl,K⟩
 by_cases z3:n=0
 case neg=>simp+decide[int,z3]
 have K:=K z3
 simp+decide[int,z3]
 refine zE.some (by rfl) (zgc g.bM G.aw G.aS) ?_
 rintro r ⟨n,rfl,J⟩
 by_cases z4:n=0
 case neg=>simp+decide[int,z4]
 have J:=J z4
 simp+decide[int,z4]
 refine zE.some (by rfl) (zg0 g.inv g.aM G.aM) ?_
 rintro r ⟨n,rfl,L⟩
 by_cases z5:n=0
 case neg=>simp+decide[int,z5]
 have L:=L z5
 simp+decide[int,z5]
 refine zE.some (by rfl) (zg1 g.aM F λe M=>(L.d_ e M).bj) ?_
 rintro r ⟨n,rfl⟩
 by_cases z6:n=0
 case neg=>simp+decide[int,z6]
 simp+decide[int,z6]
 refine zE.some (by rfl) (zg2 g.aM (by omega)) ?_
 rintro r ⟨n,rfl,O⟩
 simp+decide[int]
 exact λh=>⟨λr Q=>(K r Q).1,λr Q=>(K r Q).2,J,L,O h,E⟩
structure aH(g:aj):Prop extends iC g where
 dQ:lu g.aM
 bi:g.inv.length<=8
 au:g.bt.au.length<=10
 cW:g.ba.length<=2
 az:g.bM.az<=3
 aw:g.bM.aw.length<=6
 aS:g.bM.aS.length<=3
theorem zg6(g:aj)(K:bC g):cu prog 12 [g.d] (λx=>∃ b,x = .bool b/\(b=true->aH g)):=by
 have F:=K.aM.cW
 have E:=K.ba.cW
 refine dW func12 ?_
 by_cases c1:(8:Int)<g.inv.length
 .simp+decide[f12,int,aj.d,zL,c1]
 by_cases c2:(10:Int)<g.bt.au.length
 .simp+decide[f12,int,aj.d,zL,zJ,c1,c2]
 by_cases c3:(2:Int)<g.ba.length
 .simp+decide[f12,int,aj.d,zL,zJ,yF,c1,c2,c3]
 by_cases c4:3<g.bM.az
 .simp+decide[f12,int,aj.d,zL,zJ,yF,c1,c2,c3,c4]
 by_cases c5:(6:Int)<g.bM.aw.length
 .simp+decide[f12,int,aj.d,zL,zJ,yF,bk,c1,c2,c3,c4,c5]
 by_cases c6:(3:Int)<g.bM.aS.length
 .simp+decide[f12,int,aa,aj.d,zL,zJ,yF,bk,c1,c2,c3,c4,c5,c6]
 simp+decide[f12,int,aa,aj.d,zL,zJ,yF,bk,c1,c2,c3,c4,c5,c6]
 refine zE.some (by rfl) (zg4 g.aM F) ?_
 rintro r ⟨b,rfl,J⟩
 cases b with
 |false=>simp+decide[int]
 |true=>
  have J:=J rfl;simp+decide[int];refine dg (λk:Nat=>{n:=66,next:=1,af:=[(1,.bp 0 0),(3,.d (int k))],own:=[(0,.box 36 (zj g.d))]}) g.ba.length (by simp+decide[int,aa,zL,zJ,yF,bk,zj,aj.d]) ?_
  intro k L;by_cases G:k<g.ba.length
  .have H:=bG G
   obtain⟨r,er,er1⟩:=bN G;by_cases d1:(8:Int)<r.bl.length
   .simp+decide[int,aa,yF,zj,aj.d,G,H,er,er1,bK.row,d1]
   .simp+decide[int,aa,yF,zj,aj.d,G,H,er,er1,bK.row,d1,aB]
    exact⟨by omega,k+1,G,by omega,by omega⟩
  .have H:¬(k:Int)<g.ba.length:=by omega
   simp+decide[int,yF,zj,aj.d,H];refine zE.some (by rfl) (zg5 g K J.cW) ?_
   rintro r ⟨n,rfl,M⟩
   simp+decide[int];by_cases z:n=0
   .exact .inr ⟨z,M z,J,by omega,by omega,by omega,by omega,by omega,by omega⟩
   .exact .inl z
theorem aH.j3{g:aj}(h:aH g):dK g.bM:=
 {lo:=h.bM.lo,hi:=h.az,aw:=λs hs=>⟨(h.bM.aw s hs).1,(h.bM.aw s hs).2.1,(h.bM.aw s hs).2.2.1⟩,aS:=h.bM.aS,cW:=by have:=h.aw;omega,ll:=by have:=h.aS;omega}
theorem aH.kJ{g:aj}(h:aH g)(G:bC g):j_ g:=by
 have hs:=h.dQ
 have H:∀ e∈g.aM,∀ w∈e.aK,gr g.inv w:=by
  intro e F w E;have K:=h.aM.d_ e F;rcases nE.1 E with e1 | e1
  .rw[e1];exact K.du
  .exact K.cm w e1
 refine {aM:=⟨by have:=hs.cW;omega,λe F=>by have:=(hs.aK e F).2.1;omega,λe F w E=>by have:=(H e F w E).len;omega,λe F=>by have:=(G.aM.d_ e F).aL.1;omega⟩,inv:=by have:=h.bi;omega,ba:=⟨λr J=>(h.ba r J).toRuleOk,by have:=h.cW;omega⟩,bM:=h.j3.ok,ml:=h.j3,lF:=h.ba,nz:=λe F w E x L=>?_}
 have:=(H e F w E).bi x L
 simp only[xd,nI,nD] at this
 omega
end Go.V
namespace Go.V
open Go Go.Proofs Tryz
theorem iY{l:List aP}(h:∀ k (h:k+1<l.length),l[k].id<l[k+1].id):∀ (d i:Nat) (hj:i+d+1<l.length),l[i].id<l[i+d+1].id
 |0,i,hj=>h i hj
 |d+1,i,hj=>by
  have H:=iY h d i (by omega)
  have G:=h (i+d+1) hj;exact Int.lt_trans H G
theorem WY{l:List aP}(h:∀ k (h:k+1<l.length),l[k].id<l[k+1].id){e:aP}(H:e∈l):zF l e.id=(e,true):=by
 obtain⟨i,hi,ei⟩:=nT.1 H
 unfold zF
 have:l.find? (λx=>decide (x.id=e.id))=some e:=by
  rw[rx];refine⟨by simp,i,hi,ei,λj hj=>?_⟩
  have:=iY h (i-j-1) j (by omega)
  have e2:j+(i-j-1)+1=i:=by omega
  simp only[e2] at this;rw[ei] at this;simp
  omega
 rw[this]
theorem MP{inv:List bD}{l:List aP}(G:∀ e∈l,lN inv e)(F:∀ e∈l,e.main≠0->0<=xp l e.main):∀ (f:Nat) (id:Int),(qk l f id).length<f->(zF l id).2=true->jg l (qk l f id)≠[]
 |0,id,h,_=>by omega
 |f+1,id,h,E=>by
  have H:=YG E;unfold qk at h ⊢;rw[gt E] at h ⊢;unfold jg;by_cases hs:(zF l id).1.aL≠[]
  .rw[gt hs];exact hs
  .rw[ge hs]
   have K:(zF l id).1.main≠0:=by
    rcases(G _ H).aL with J | J
    .exact absurd J hs
    .exact J
   rw[ge K] at h ⊢;refine MP G F f _ (by simpa using h) ?_
   rcases ki l (zF l id).1.main with⟨L,_⟩ | ⟨j,hj,_,M⟩
   .exact absurd (F _ H K) (by omega)
   .rw[M]
theorem aH.aL{g:aj}(h:aH g){e:aP}(H:e∈g.aM):xg g.aM e.id≠[]:=by
 unfold xg
 rw[Vl]
 refine MP h.aM.d_ h.main.main _ _ ?_ (by rw[WY h.aM.up H])
 have:=h.main.ends e H
 omega
section
variable (g:aj) (w:List Int)
def xx:Nat:=if gn g.ba=true then 24 else w.length
def gV(b:List aG):Bool:=decide (w.length<=(zM g.aM b).length)&&jh g w b
def qn:Nat->List aG->List (List aG)
 |0,_=>[]
 |f+1,a=>g.aM.flatMap λe=>if e.cU∈jk g.bM (yu g.aM a) 20 then ((List.range e.aK.length).flatMap λ(bf:Nat)=>
   if xx g w<(zM g.aM (a++[⟨e.id,bf,0⟩])).length then [] else (if gV g w (a++[⟨e.id,bf,0⟩])=true then [a++[⟨e.id,bf,0⟩]] else [])++qn f (a++[⟨e.id,bf,0⟩])) else []
def j4(ai:List Int):Bool:=decide (xH g.inv g.ba ai≠[])&&decide (xH g.inv g.ba ai=w)
def fM:Nat->List aG->Nat->List Int->List (List aG×List Int)
 |0,_,_,_=>[]
 |f+1,a,s,ai=>g.aM.flatMap λe=>if yw g.bM.aw s e.cU≠0 then ((List.range e.aK.length).flatMap λ(bf:Nat)=>
   if xx g w<(ai++e.aK[bf]?.getD []).length then [] else
   (if yw g.bM.aw s e.cU &&& yg g.bM.aS≠0/\w.length<=(ai++e.aK[bf]?.getD []).length/\j4 g w (ai++e.aK[bf]?.getD [])=true then [(a++[⟨e.id,bf,0⟩],ai++e.aK[bf]?.getD [])] else []) ++
    fM f (a++[⟨e.id,bf,0⟩]) (yw g.bM.aw s e.cU) (ai++e.aK[bf]?.getD [])) else []
end
theorem VV{α β:Type}{f h:α->List β}:∀ {l:List α},(∀ x∈l,f x=h x)->l.flatMap f=l.flatMap h
 | [],_=>rfl
 |a::l,e=>by
  rw[pz,pz,e a (nL ..),VV λx H=>e x (nG _ H)]
theorem Dj{α β:Type}{l:List α}{f:α->List β}(h:∀ x∈l,f x=[]):l.flatMap f=[]:=by
 rw[List.flatMap_eq_nil_iff];exact h
theorem MQ{g:aj}{w:List Int}(G:aH g):∀ (f:Nat) (a:List aG) (s:Nat) (ai:List Int),s<2^g.bM.az.toNat->hY g.bM s->fM g w f a s ai=[]
 |0,_,_,_,_,_=>rfl
 |f+1,a,s,ai,hs,F=>by
  unfold fM;refine Dj λe E=>?_
  split
  .refine Dj λbf _=>?_
   have K:=(G.aM.d_ e E).cU;have J:=zgx G.j3 hs F K.1;have H:=Gz G.j3 s e.cU;have L:=Me G.j3 H J;split
   .rfl
   .rw[ge (λh=>h.1 L),MQ G f _ _ _ H J];rfl
  .rfl
theorem zkh(n:aY):hY n 0:=by
 rw[Da];intro q _ h;rw[xD] at h;cases h
theorem MR{g:aj}(H:aH g)(cs:List Int){c:Int}(G:1<=c)(F:c<=20):c∈jk g.bM cs 20↔¬hY g.bM (yw g.bM.aw (yr g.bM.aw cs) c):=by
 unfold jk hY
 rw[oA,nS]
 constructor
 .rintro⟨_,h⟩ h';rw[h'] at h;cases h
 .intro h
  refine⟨⟨(c-1).toNat,oc.2 (by omega),by omega⟩,?_⟩
  cases E:vS g.bM.az.toNat (yw g.bM.aw (yr g.bM.aw cs) c) (kF g.bM) with
  |true=>rfl
  |false=>exact absurd E h
theorem VW{g:aj}(H:aH g){e:aP}(G:e∈g.aM){bf:Nat}(F:bf<e.aK.length):qD g.aM ⟨e.id,bf,0⟩=(e,e.aK[bf]?.getD [],true):=by
 have h:=WY H.aM.up G
 unfold qD
 simp only
 rw[gt ⟨by rw[h],by omega,by rw[h];show(bf:Int)<e.aK.length;omega⟩,h]
 rfl
theorem Dk{g:aj}(H:aH g){e:aP}(G:e∈g.aM){bf:Nat}(F:bf<e.aK.length):qE g.aM ⟨e.id,bf,0⟩=0:=by
 have hs:0<(xg g.aM e.id).length:=r_.2 (H.aL G)
 unfold qE
 rw[VW H G F,WY H.aM.up G]
 simp only[rQ,oU]
 rw[ge]
 rintro(h | h) <;> omega
theorem zce{g:aj}(H:aH g){e:aP}(G:e∈g.aM){bf:Nat}(F:bf<e.aK.length)(a:List aG):yu g.aM (a++[⟨e.id,bf,0⟩])=yu g.aM a++[e.cU]:=by
 unfold yu
 rw[oW,pQ,VW H G F]
 rfl
theorem zki{g:aj}(H:aH g){e:aP}(G:e∈g.aM){bf:Nat}(F:bf<e.aK.length)(a:List aG):zM g.aM (a++[⟨e.id,bf,0⟩])=zM g.aM a++e.aK[bf]?.getD []:=by
 unfold zM
 rw[oW,pQ,VW H G F]
 rfl
theorem WZ{l:List aP}:∀ {ps:List aG},(∀ p∈ps,qE l p=0)->jf l ps=0
 | [],_=>rfl
 |p::ps,h=>by
  unfold jf;rw[gt (h p (nL ..))];exact WZ λx H=>h x (nG _ H)
theorem zok{g:aj}{w:List Int}{b:List aG}(F:∀ p∈b,qE g.aM p=0)(E:1<=b.length)(K:b.length<=4)(J:(zM g.aM b).length<=24):
  jh g w b=(decide (yr g.bM.aw (yu g.aM b) &&& yg g.bM.aS≠0)&&j4 g w (zM g.aM b)):=by
 have L:qF g b=if uJ g.bM (yu g.aM b)=false then 21 else 0:=by
  unfold qF;rw[ge (by omega),ge (by omega),ge (by rw[WZ F];simp),ge (show ¬24<(zM g.aM b).length by omega)]
 unfold jh qj j4
 rw[L]
 have H:uJ g.bM (yu g.aM b)=decide (yr g.bM.aw (yu g.aM b) &&& yg g.bM.aS≠0):=rfl
 rw[<-H]
 cases uJ g.bM (yu g.aM b) with
 |false=>simp
 |true=>
  simp only[rQ,oU,Cz,Cu,pK];by_cases M:xH g.inv g.ba (zM g.aM b)=[]
  .simp[M]
  .have G:¬(xH g.inv g.ba (zM g.aM b)).length=0:=λh=>M (pN.mp h)
   simp[M,G]
theorem zol(n:aY)(cs:List Int)(c:Int):yr n.aw (cs++[c])=yw n.aw (yr n.aw cs) c:=by unfold yr;rw[oI];rfl
theorem MS{g:aj}{w:List Int}(K:aH g)(J:w.length<=24):∀ (f:Nat) (a:List aG),a.length+f=4->(∀ p∈a,qE g.aM p=0) ->
  fM g w f a (yr g.bM.aw (yu g.aM a)) (zM g.aM a)=(qn g w f a).map λb=>(b,zM g.aM b)
 |0,_,_,_=>rfl
 |f+1,a,L,M=>by
  have O:xx g w<=24:=by unfold xx;split <;> omega
  unfold fM qn;rw[xL];refine VV λe Q=>?_
  have T:=(K.aM.d_ e Q).cU;have G:=Gz K.j3 (yr g.bM.aw (yu g.aM a)) e.cU;by_cases V:hY g.bM (yw g.bM.aw (yr g.bM.aw (yu g.aM a)) e.cU)
  .rw[ge (λh=>(MR K _ T.1 T.2).1 h V)]
   have X:=Me K.j3 G V;rw[tj];split
   .refine Dj λbf _=>?_
    split
    .rfl
    .rw[ge (λh=>h.1 X),MQ K f _ _ _ G V];rfl
   .rfl
  .rw[gt ((MR K _ T.1 T.2).2 V),gt (λh=>V (by rw[h];exact zkh _)),xL]
   refine VV λbf Y=>?_
   have Y:=oc.1 Y;rw[<-zki K Q Y a];by_cases H:xx g w<(zM g.aM (a++[⟨e.id,(bf:Int),0⟩])).length
   .rw[gt H,gt H];rfl
   .rw[ge H,ge H,oF]
    have F:∀ p∈a++[⟨e.id,(bf:Int),0⟩],qE g.aM p=0:=by
     intro p Z;rcases nM.1 Z with h | h
     .exact M p h
     .rw[nQ] at h;rw[h];exact Dk K Q Y
    have A:yw g.bM.aw (yr g.bM.aw (yu g.aM a)) e.cU=yr g.bM.aw (yu g.aM (a++[⟨e.id,(bf:Int),0⟩])):=by rw[zce K Q Y,zol]
    have E:=zok (w:=w) F (by simp) (by simp;omega) (by omega)
    rw[A,MS K J f _ (by simp;omega) F]
    congr 1
    unfold gV;rw[E];by_cases B:yr g.bM.aw (yu g.aM (a++[⟨e.id,(bf:Int),0⟩])) &&& yg g.bM.aS≠0
    .by_cases X:w.length<=(zM g.aM (a++[⟨e.id,(bf:Int),0⟩])).length
     .cases C:j4 g w (zM g.aM (a++[⟨e.id,(bf:Int),0⟩])) with
      |true=>rw[gt ⟨B,X,rfl⟩,gt (by simp[B,X])];rfl
      |false=>rw[ge (λh=>by cases h.2.2),ge (by simp)];rfl
     .rw[ge (λh=>X h.2.1),ge (by simp[X])];rfl
    .rw[ge (λh=>B h.1),ge (by simp only[Cz,Decidable.not_not] at B;simp[B])];rfl
end Go.V
namespace Go.V
open Go Go.Proofs Tryz
def Qb(ai:List Int):List (List D):=ai.map λx=>[.int .u8 (IntKind.u8.wrap x)]
def dw(ai:List Int):ByteArray:=⟨(ai.map λx=>UInt8.ofNat (IntKind.u8.wrap x).toNat).toArray⟩
theorem MU:∀ ai:List Int,cP (ai.map λx=>[D.int .u8 (IntKind.u8.wrap x)])=some (ai.map λx=>UInt8.ofNat (IntKind.u8.wrap x).toNat)
 | []=>rfl
 |x::r=>by
  have:=MU r
  simp[cP,this]
theorem mB(ai:List Int)(E:ai.length<=1048576):aq prog 298 [aa ai] (.str (dw ai)):=by
 refine aF func298 ?_
 simp+decide[Tryz.f298,int,aa]
 refine⟨by omega,by unfold maxLen;omega,?_⟩
 refine dg (λk:Nat=>{n:=23,next:=1,af:=[(3,.ar 0),(9,.d (aa ai)),(10,.d (int ai.length)),(11,.d (int k))],own:=[(0,.aQ 5 1 (Qb (ai.take k)))],aA:=[0]}) ai.length (by simp+decide[int,aa,Qb]) ?_
 intro k K
 by_cases H:k<ai.length
 .have G:=bG H
  have aI:=yh H;obtain⟨x,ex,e1⟩:=bN H;rw[ex] at aI;have F:(Qb (ai.take k)).length=k:=by simp[Qb];omega
  simp+decide[int,aa,H,G,e1,ex,aB,F];exact .inl ⟨by omega,by unfold maxLen;omega,by omega,k+1,H,by omega,by omega,by rw[aI];simp[Qb]⟩
 .obtain rfl:k=ai.length:=by omega
  rw[nH];simp+decide[int,aa,Qb,cP,dw,wC];rw[MU]
def ym(b:List Int):Prop:=∀ x∈b,0<=x/\x<256
theorem iv:∀ {a b:List Int},ym a->ym b->dw a=dw b->a=b:=by
 intro a b G F h
 have E:(a.map λx=>UInt8.ofNat (IntKind.u8.wrap x).toNat)=(b.map λx=>UInt8.ofNat (IntKind.u8.wrap x).toNat):=by
  unfold dw at h;have:=congrArg (λs:ByteArray=>s.data.toList) h
  simpa using this
 have K:∀ x:Int,0<=x/\x<256->(UInt8.ofNat (IntKind.u8.wrap x).toNat).toNat=x.toNat:=by
  intro x K;rw[ke];simp only[Cn];omega
 induction a generalizing b with
 |nil=>
  cases b with
  |nil=>rfl
  |cons y b=>simp at E
 |cons x a ih=>
  cases b with
  |nil=>simp at E
  |cons y b=>
   simp only[nK,sr] at E;have e1:=K x (G x (nL ..));have e2:=K y (F y (nL ..));rw[E.1,e2] at e1;have b1:=G x (nL ..);have b2:=F y (nL ..);have H:x=y:=by omega
   rw[H];congr 1
   refine ih (λz J=>G z (nG _ J)) (λz J=>F z (nG _ J)) ?_ E.2
   unfold dw;rw[E.2]
def Y9(g:aj)(w:List Int)(tr:List (List Int)):List (List D):=tr.map λb=>[.str (dw b),.bool (j4 g w b)]
theorem MV(g:aj)(w:List Int){ai:List Int}(G:ym ai):∀ tr:List (List Int),(∀ b∈tr,ym b)->kN (.str (dw ai)) (Y9 g w tr)=some (if ai∈tr then some (.bool (j4 g w ai)) else none)
 | [],_=>rfl
 |m::r,h=>by
  simp only[Y9,nK,kN,Z1];by_cases e:ai=m
  .subst e;simp
  .have:¬dw ai=dw m:=λF=>e (iv G (h m (nL ..)) F)
   have ih:=MV g w G r λb H=>h b (nG _ H)
   simp only[Y9] at ih;have this':¬dw m=dw ai:=λF=>this F.symm
   simp[this,this',e,ih]
theorem MW(g:aj)(w:List Int){ai:List Int}(G:ym ai):∀ tr:List (List Int),(∀ b∈tr,ym b)->ai∉tr->uZ (.str (dw ai)) (.bool (j4 g w ai)) (Y9 g w tr)=some (Y9 g w (tr++[ai]))
 | [],_,_=>rfl
 |m::r,h,F=>by
  simp only[nE,Ck] at F;have:¬dw ai=dw m:=λE=>F.1 (iv G (h m (nL ..)) E)
  have this':¬dw m=dw ai:=λE=>this E.symm
  have ih:=MW g w G r (λb H=>h b (nG _ H)) F.2
  simp only[Y9] at ih ⊢;simp[uZ,Z1,this,this',ih]
def zB(g:aj)(w:List Int)(tr:List (List Int))(fn:ah)(aC:List (Nat×am)):List (Nat×am):=
 (0,.box 327 (zj g.d++[.d (aa w),.d (.bool (gn g.ba)),.d (u32 (yg g.bM.aS)),.mp 1,fn]))::(1,.map 325 (Y9 g w tr))::aC
structure bO(n:Nat)(fn:ah)(aC:List (Nat×am)):Prop where
 la:2<=n
 bB:(aC.map (·.1)).Nodup
 aD:∀ id o,(id,o)∈aC->2<=id/\id<n/\o.lo n
 range:0::1::aC.map (·.1)=List.range n
 lA:∀ k x,n<=k->qw k x aC=aC
 mS:∀ k x,n<=k->bX k x fn=fn
 fn:ah.lo n fn
theorem Y6{α:Type}:∀ {l:List (Nat×α)} {id:Nat} {o:α},(l.map (·.1)).Nodup->(id,o)∈l->zc l id=some o
 |(k,u)::l,id,o,H,G=>by
  simp only[nK,oE] at H;simp only[zc];rcases nE.1 G with e | e
  .cases e;rw[gt rfl]
  .have:¬k=id:=by
    intro h;subst h;exact H.1 (nS.2 ⟨_,e,rfl⟩)
   rw[ge this];exact Y6 H.2 e
theorem Qc{n:Nat}{fn:ah}{aC:List (Nat×am)}(h:bO n fn aC){st:St}(G:∀ id,2<=id->id<n->zc st.own id=zc aC id){m:Nat}(F:n<=m)(H:∀ o:am,o.lo n->o.lo m):jE st m aC:=by
 have key:∀ l:List (Nat×am),(∀ x∈l,x∈aC)->jE st m l:=by
  intro l;induction l with
  |nil=>intro _;simp[jE]
  |cons x l ih=>
   intro E;obtain⟨id,o⟩:=x;have K:=E (id,o) (nL ..);have hi:=h.aD id o K;simp only[jE];refine⟨?_,by omega,H o hi.2.2,ih λy J=>E y (nG _ J)⟩
   rw[G id hi.1 hi.2.1,Y6 h.bB K]
 exact key aC λ_ K=>K
theorem vK{n:Nat}{fn:ah}{aC:List (Nat×am)}(h:bO n fn aC){st:St}{a b:am}(H:st.own=(0,a)::(1,b)::aC):jE st n aC:=by
 refine Qc h (λid G h2=>?_) (nJ _) (λ_ h=>h)
 rw[H]
 simp only[zc]
 rw[ge (by omega),ge (by omega)]
theorem K0{n:Nat}{fn:ah}{aC:List (Nat×am)}(h:bO n fn aC){st:St}{a b c:am}{k:Nat}(H:n<=k)(G:st.own=(k,c)::(0,a)::(1,b)::aC):jE st n aC:=by
 refine Qc h (λid F h2=>?_) (nJ _) (λ_ h=>h)
 rw[G]
 simp only[zc]
 rw[ge (by omega),ge (by omega),ge (by omega)]
theorem bO.vf{n:Nat}{fn:ah}{aC:List (Nat×am)}(h:bO n fn aC):(∀ (x:am),¬(0,x)∈aC)/\(∀ (x:am),¬(1,x)∈aC)/\(List.map (λx=>x.fst) aC).Nodup:=
 ⟨λx H=>by have:=(h.aD 0 x H).1;omega,λx H=>by have:=(h.aD 1 x H).1;omega,h.bB⟩
theorem zg7(g:aj)(w:List Int)(tr:List (List Int))(n:Nat)(fn:ah)(aC:List (Nat×am))(Z:bO n fn aC)(A:aH g)(s:Nat)(hs:s<8)(c:Int):
  aU prog 295 [.bp 0 0,.d (u32 s),.d (int c)] (zB g w tr fn aC) n (.d (u32 (yw g.bM.aw s c))) n (zB g w tr fn aC) []:=by
 have B:=Z.la
 have O:0<n:=by omega
 refine dd func295 (by simp[ah.a_,ah.lo,O]) ?_
 have J:¬n=0:=by omega
 have L:¬n=1:=by omega
 have Q:=A.j3.cW
 have G:=Z.vf
 have F:=Z.fn
 have C:∀ k,(g.bM.aw.take k).foldl (xG s c) 0<8:=λk=>Wb (λx I=>A.j3.ok.1 x (oh I)) (by omega)
 simp+decide[Tryz.f295,zB,zj,aj.d,int,aa,bk,u32]
 refine dg (λk:Nat=>{n:=40,next:=n,af:=[(1,.d (u32 s)),(2,.d (int c)),(7,.d (u32 ((g.bM.aw.take k).foldl (xG s c) 0))),(15,.d (bk g.bM.aw)),(16,.d (int g.bM.aw.length)),(17,.d (int k))],own:=zB g w tr fn aC,ai:=n}) g.bM.aw.length ?_ ?_
 .simp+decide[zB,zj,aj.d,int,aa,bk,u32]
  exact⟨G,by omega,⟨by omega,F⟩,by omega,vK Z rfl⟩
 intro k N
 by_cases H:k<g.bM.aw.length
 case neg=>
  obtain rfl:k=g.bM.aw.length:=by omega
  rw[nH];simp+decide[zB,zj,aj.d,int,aa,bk,u32,yw];exact⟨G,by omega,⟨by omega,F⟩,by omega,vK Z rfl⟩
 have E:=bG H
 have P:=A.j3.aw g.bM.aw[k] (nF H)
 have Y:=A.j3.hi
 have aI:(g.bM.aw.take (k+1)).foldl (xG s c) 0=xG s c ((g.bM.aw.take k).foldl (xG s c) 0) g.bM.aw[k]:=by rw[yh H,oI];rfl
 obtain⟨x,ex,e1⟩:=bN H
 rw[ex] at P aI
 have M:=C k
 generalize (g.bM.aw.take k).foldl (xG s c) 0=m at aI M
 have T:xG s c m x=if kX s x.bl=true/\x.cU=c then qC m x.dst else m:=rfl
 rw[T] at aI
 by_cases S:x.cU=c
 case neg=>
  rw[ge (λh=>S h.2)] at aI
  simp+decide[zB,zj,aj.d,int,aa,bk,u32,H,E,ex,e1,dN.row,J,L,S,aB];exact⟨by omega,k+1,H,by omega,G,⟨by rw[aI],by omega⟩,by omega,⟨by omega,F⟩,by omega,K0 Z (nJ _) rfl⟩
 have W:=Ew hs P.1.1 (show x.bl<3 by omega)
 have V:=G9 M P.2.1.1 (show x.dst<3 by omega)
 simp+decide[zB,zj,aj.d,int,aa,bk,u32,H,E,ex,e1,dN.row,J,L,S,aB]
 refine⟨P.1.1,λhb1=>?_,λhb1=>?_⟩
 .have K:kX s x.bl=true:=by rw[<-W];simpa using hb1
  rw[gt ⟨K,S⟩] at aI;exact⟨P.2.1.1,by omega,k+1,H,by omega,G,⟨by rw[aI];exact V,by omega⟩,by omega,⟨by omega,F⟩,by omega,K0 Z (nJ _) rfl⟩
 .have X:¬kX s x.bl=true:=by rw[<-W];simpa using hb1
  rw[ge (λh=>X h.1)] at aI
  exact⟨by omega,k+1,H,by omega,G,⟨by rw[aI],by omega⟩,by omega,⟨by omega,F⟩,by omega,K0 Z (nJ _) rfl⟩
def jl(tr:List (List Int))(ai:List Int):List (List Int):=if ai∈tr then tr else tr++[ai]
theorem MY(g:aj)(w:List Int)(tr:List (List Int))(n:Nat)(fn:ah)(aC:List (Nat×am))(V:bO n fn aC)(X:aH g)(Y:bC g)(ai:List Int)(Z:ai.length<=24)(A:w.length<=24)(B:ym ai)(C:∀ b∈tr,ym b):
  aU prog 294 [.bp 0 0,.d (aa ai)] (zB g w tr fn aC) n (.d (.bool (j4 g w ai))) n (zB g w (jl tr ai) fn aC) []:=by
 have I:=V.la
 have J:0<n:=by omega
 have Q:¬n=0:=by omega
 have T:¬n=1:=by omega
 have G:=V.vf
 have F:=V.fn
 have N:=X.kJ Y
 have P:=mB ai (by omega)
 have S:=MV g w B tr C
 have W:=EH g.inv (by have:=N.inv;omega) g.ba N.ba.1 N.ba.2 ai (by omega)
 have L:=YH g.inv g.ba ai
 refine dd func294 (by simp[ah.a_,ah.lo,J]) ?_
 simp+decide[Tryz.f294,zB,zj,aj.d,int,aa,u32]
 refine zg P ?_
 unfold jl
 by_cases hm:ai∈tr
 .rw[gt hm] at S ⊢
  simp+decide[S,int];exact⟨G,by omega,⟨by omega,F⟩,by omega,vK V rfl⟩
 rw[ge hm] at S ⊢
 have hP:=MW g w B tr C hm
 simp+decide[S,int]
 have E:j4 g w ai=(decide (xH g.inv g.ba ai≠[])&&decide (xH g.inv g.ba ai=w)):=rfl
 refine bw W ?_
 have hE:=Eo (xH g.inv g.ba ai) w (by omega)
 generalize xH g.inv g.ba ai=v at W hE L E
 by_cases hv:v.length=0
 .have H:v=[]:=pN.mp hv
  have K:j4 g w ai=false:=by rw[E,H];rfl
  rw[K] at hP ⊢;simp+decide[int,aa,hv,H,hP];exact⟨G,by omega,⟨by omega,F⟩,by omega,vK V rfl⟩
 .have H:v≠[]:=λh=>hv (by rw[h];rfl)
  have M:(0:Int)<v.length:=by omega
  have K:j4 g w ai=decide (v=w):=by rw[E];simp[H]
  rw[K] at hP ⊢;have O:0<v.length:=by omega
  simp+decide[int,aa,hv,M,H,O];refine zg hE ?_
  simp+decide[int,aa,hP];exact⟨G,by omega,⟨by omega,F⟩,by omega,vK V rfl⟩
end Go.V
namespace Go.V
open Go Go.Proofs Tryz
section
variable {ρ:Nat->Nat} {m:Nat}
mutual
theorem Dl(h:∀ i,i<m->ρ i=i):∀ {s:ah},ah.lo m s->cg ρ s=s
 |.bp i o,hl=>by simp only[ah.lo] at hl;simp only[cg,h i hl]
 |.ar i,hl=>by simp only[ah.lo] at hl;simp only[cg,h i hl]
 |.ap i s j o,hl=>by simp only[ah.lo] at hl;simp only[cg,h i hl]
 |.a_s i s j o,hl=>by simp only[ah.lo] at hl;simp only[cg,h i hl]
 |.av i s j o,hl=>by simp only[ah.lo] at hl;simp only[cg,h i hl]
 |.yd i,hl=>by simp only[ah.lo] at hl;simp only[cg,h i hl]
 |.mp i,hl=>by simp only[ah.lo] at hl;simp only[cg,h i hl]
 |.bE l,hl=>by simp only[ah.lo] at hl;simp only[cg,Ya h hl]
 |.agg l,hl=>by simp only[ah.lo] at hl;simp only[cg,Ya h hl]
 |.fn f l,hl=>by simp only[ah.lo] at hl;simp only[cg,Ya h hl]
 |.d x,_=>rfl
 |.aW,_=>rfl
 |.junk,_=>rfl
theorem Ya(h:∀ i,i<m->ρ i=i):∀ {l:List ah},ah.a_ m l->yf ρ l=l
 | [],_=>rfl
 |s::l,hl=>by
  simp only[ah.a_] at hl;simp only[yf,Dl h hl.1,Ya h hl.2]
end
theorem MZ(h:∀ i,i<m->ρ i=i):∀ {o:am},o.lo m->vE ρ o=o
 |.box T l,hl=>by simp only[am.lo] at hl;simp only[vE,Ya h hl]
 |.aQ _ _ _,_=>rfl
 |.map _ _,_=>rfl
 |.cN k l,hl=>by simp only[am.lo] at hl;simp only[vE,Ya h hl]
theorem Dm(h:∀ i,i<m->ρ i=i):∀ {l:List (Nat×am)},(∀ i o,(i,o)∈l->i<m/\o.lo m)->kS ρ l=l
 | [],_=>rfl
 |(i,o)::l,H=>by
  have G:=H i o (nL ..);simp only[kS,h i G.1,MZ h G.2,Dm h λj p hj=>H j p (nG _ hj)]
mutual
theorem N1:∀ (s:ah),zQ [] s=s
 |.bp _ _=>by simp[zQ]
 |.ar _=>by simp[zQ]
 |.ap _ _ _ _=>by simp[zQ]
 |.a_s _ _ _ _=>by simp[zQ]
 |.av _ _ _ _=>by simp[zQ]
 |.yd _=>by simp[zQ]
 |.mp _=>by simp[zQ]
 |.bE l=>by simp[zQ,Qd l]
 |.agg l=>by simp[zQ,Qd l]
 |.fn f l=>by simp[zQ,Qd l]
 |.d _=>by simp[zQ]
 |.aW=>by simp[zQ]
 |.junk=>by simp[zQ]
theorem Qd:∀ (l:List ah),qX [] l=l
 | []=>by simp[qX]
 |s::l=>by simp[qX,N1 s,Qd l]
end
theorem N2:∀ (l:List (Nat×ah)),kR [] l=l
 | []=>rfl
 |(t,s)::l=>by simp[kR,N1 s,N2 l]
theorem zbc:∀ (o:am),wE [] o=o
 |.box T l=>by simp[wE,Qd l]
 |.aQ _ _ _=>by simp[wE]
 |.map _ _=>by simp[wE]
 |.cN k l=>by simp[wE,Qd l]
def xr(n:Nat):List (Nat×am)->List (Nat×am)
 | []=>[]
 |(i,o)::r=>if i<n then xr n r else (i,o)::xr n r
theorem N3(n:Nat):∀ l:List (Nat×am),jB (List.range n) [] l=xr n l
 | []=>rfl
 |(i,o)::r=>by
  simp only[jB,xr,oc,zbc,N3 n r]
theorem Dn{st:St}{n:Nat}:∀ {l:List (Nat×am)},(∀ i o,(i,o)∈l->i<n/\o.lo n/\zc st.own i=some o)->jC st (List.range n) l
 | [],_=>trivial
 |(i,o)::r,h=>by
  obtain⟨H,G,F⟩:=h i o (nL ..);have E:∀ j,j<n->ce (List.range n) j=j:=λj hj=>by unfold ce;simp[List.getD,hj]
  simp only[jC,pV];refine⟨?_,G,Dn λj p hj=>h j p (nG _ hj)⟩
  rw[E i H];unfold St.ay;rw[F,MZ E G]
end
theorem Dp{P:Program}{st:St}{f:Operand}{xs:List Operand}{dst:Option Tmp}{K:St->Prop}{g:Nat}{aJ:List ah}{n:Nat}{aR own':List (Nat×am)}{s:ah}
  (J:xF (st.val f)=some (g,aJ)) (L:ah.a_ n (xs.map st.val++aJ)) (M:n<=st.next) (H:aR.map (·.1)=List.range n) (G:∀ i o,(i,o)∈aR->i<n/\o.lo n/\zc st.own i=some o)
  (E:∀ i o,(i,o)∈own'->i<n/\o.lo n) (hs:ah.lo n s) (O:aU P g (xs.map st.val++aJ) aR n s n own' []) (Q:K (({st with own:=own'++xr n st.own}).put dst s)):zE P st f xs dst K:=by
 have T:∀ j,j<n->ce (List.range n) j=j:=λj hj=>by unfold ce;simp[List.getD,hj]
 have F:∀ j,j<n->yE (List.range n) st.next j=j:=λj hj=>by unfold yE;simp[List.getD,hj]
 refine zE.mut (List.range n) (xs.map st.val++aJ) aR J (Ya T L) (by rw[pV];exact L) ⟨sU,λid cq=>by have:=oc.1 cq;omega,by rw[pV];exact H,Dn G⟩ (by rw[pV];exact O) ?_
 have e1:st.after (List.range n) n own' [] = {st with own:=own'++xr n st.own}:=by
  unfold St.after;simp only[tj,N2,pV,rU,rf,oP,Dm F E,N3]
 rw[e1,Dl F hs]
 exact Q
def xW(n:Nat)(mv:List Nat)(l:List (Nat×am)):Prop:=∀ i o,(i,o)∈l->n<=i->wE mv o=o
theorem xW.nil{n:Nat}{mv:List Nat}:xW n mv []:=λ_ _ h=>by cases h
theorem xW.cons{n:Nat}{mv:List Nat}{i:Nat}{o:am}{l:List (Nat×am)}(h:wE mv o=o)(H:xW n mv l):xW n mv ((i,o)::l):=by
 intro j p G F
 rcases nE.1 G with e | e
 .cases e;exact h
 .exact H j p e F
theorem xW.h_{n:Nat}{mv:List Nat}{i:Nat}{o:am}{l:List (Nat×am)}(h:i<n)(H:xW n mv l):xW n mv ((i,o)::l):=by
 intro j p G F
 rcases nE.1 G with e | e
 .cases e;omega
 .exact H j p e F
theorem xW.fC{n:Nat}{mv:List Nat}{l r:List (Nat×am)}(h:xW n mv l)(H:xW n mv r):xW n mv (l++r):=by
 intro j p G F
 rcases nM.1 G with e | e
 .exact h j p e F
 .exact H j p e F
theorem xW.aC{n:Nat}{mv:List Nat}{fn:ah}{aC:List (Nat×am)}(h:bO n fn aC):xW n mv aC:=by
 intro j p H G
 have:=(h.aD j p H).2.1
 omega
theorem xW.la{n:Nat}{mv:List Nat}{fn:ah}{aC:List (Nat×am)}(h:bO n fn aC){a b:am}:xW n mv ((0,a)::(1,b)::aC):=
 .h_ (by have:=h.la;omega) (.h_ (by have:=h.la;omega) (.aC h))
theorem N4{n:Nat}{mv:List Nat}:∀ {l:List (Nat×am)},xW n mv l->jB (List.range n) mv l=xr n l
 | [],_=>rfl
 |(i,o)::r,h=>by
  have ih:=N4 (l:=r) λj p H G=>h j p (nG _ H) G
  simp only[jB,xr,oc,ih];by_cases c:i<n
  .rw[gt c,gt c]
  .rw[ge c,ge c,h i o (nL ..) (by omega)]
theorem K2{P:Program}{st:St}{f:Operand}{xs:List Operand}{dst:Option Tmp}{K:St->Prop}{g:Nat}{aJ:List ah}{n:Nat}{aR own':List (Nat×am)}{s:ah}{mv:List Nat}
  (E:∀ i∈mv,2<=i/\i<n)
  (O:xF (st.val f)=some (g,aJ)) (Q:ah.a_ n (xs.map st.val++aJ)) (T:n<=st.next) (H:aR.map (·.1)=List.range n) (G:∀ i o,(i,o)∈aR->i<n/\o.lo n/\zc st.own i=some o)
  (J:∀ i o,(i,o)∈own'->i<n/\o.lo n) (hs:ah.lo n s) (V:aU P g (xs.map st.val++aJ) aR n s n own' mv) (L:kR mv st.af=st.af) (M:xW n mv st.own)
  (X:K (({st with own:=own'++xr n st.own,aA:=mv++st.aA}).put dst s)):zE P st f xs dst K:=by
 have Y:∀ j,j<n->ce (List.range n) j=j:=λj hj=>by unfold ce;simp[List.getD,hj]
 have F:∀ j,j<n->yE (List.range n) st.next j=j:=λj hj=>by unfold yE;simp[List.getD,hj]
 refine zE.mut (List.range n) (xs.map st.val++aJ) aR O (Ya Y Q) (by rw[pV];exact Q) ⟨sU,λid cq=>by have:=oc.1 cq;omega,by rw[pV];exact H,Dn G⟩ (by rw[pV];exact V) ?_
 have em:mv.map (yE (List.range n) st.next)=mv:=by
  have:∀ l:List Nat,(∀ i∈l,i∈mv)->l.map (yE (List.range n) st.next)=l:=by
   intro l;induction l with
   |nil=>intro _;rfl
   |cons i l ih=>
    intro h;rw[nK,F i (E i (h i (nL ..))).2,ih λj hj=>h j (nG _ hj)]
  exact this mv λ_ h=>h
 have e1:st.after (List.range n) n own' mv = {st with own:=own'++xr n st.own,aA:=mv++st.aA}:=by
  unfold St.after;rw[em,L,N4 M,Dm F J];simp only[pV,rU,rf]
 rw[e1,Dl F hs]
 exact X
theorem wT{n:Nat}{fn:ah}{aC:List (Nat×am)}(h:bO n fn aC):xr n aC=[]:=by
 have key:∀ l:List (Nat×am),(∀ x∈l,x∈aC)->xr n l=[]:=by
  intro l;induction l with
  |nil=>intro _;rfl
  |cons x l ih=>
   intro H;obtain⟨i,o⟩:=x;have:=(h.aD i o (H _ (nL ..))).2.1
   simp only[xr];rw[gt this];exact ih λy G=>H y (nG _ G)
 exact key aC λ_ hx=>hx
theorem VX{n:Nat}{fn:ah}{aC:List (Nat×am)}(h:bO n fn aC){st:St}{a b c:am}{k m:Nat}(H:n<=k)(G:n<=m)(F:st.own=(k,c)::(0,a)::(1,b)::aC):jE st m aC:=by
 refine Qc h (λid E h2=>?_) G (λ_ h=>am.jA G h)
 rw[F]
 simp only[zc]
 rw[ge (by omega),ge (by omega),ge (by omega)]
theorem bO.Yb{n:Nat}{fn:ah}{aC:List (Nat×am)}(h:bO n fn aC):(∀ (x:am),¬(n,x)∈aC)/\(∀ (x:am),¬(0,x)∈aC)/\(∀ (x:am),¬(1,x)∈aC)/\(List.map (λx=>x.fst) aC).Nodup:=
 ⟨λx H=>by have:=(h.aD n x H).2.1;omega,h.vf⟩
theorem bO.aJ{n f:Nat}{l:List ah}{aC:List (Nat×am)}(h:bO n (.fn f l) aC){m:Nat}(H:n<=m):ah.a_ m l:=by
 have:=h.fn
 simp only[ah.lo] at this
 exact ah.Xl H this
theorem zaq{P:Program}{c:Code}{Q:DE->St->Prop}{st:St}(keep:List Nat)(h:∀ id∈st.aA,st.ai<=id\/id∈keep)(G:aT P c Q {st with aA:=keep}):aT P c Q st:=λX w0 β a w F=>
 G X w0 β a w {F with bI:=⟨F.bI.1,λid cq E=>F.bI.2 id cq (λH=>(h id H).elim (λK=>absurd K (Nat.not_le_of_lt cq)) E)⟩}
theorem N5{α:Type}{id:Nat}:∀ {l bJ:List (Nat×α)},(∀ x∈bJ,x.1≠id)->zc (l++bJ) id=zc l id
 | [],bJ,h=>by
  induction bJ with
  |nil=>rfl
  |cons x bJ ih=>
   obtain⟨k,o⟩:=x;simp only[oP,zc] at ih ⊢;rw[ge (h (k,o) (nL ..))];have:=ih λy H=>h y (nG _ H)
   simpa using this
 |(k,o)::l,bJ,h=>by
  simp only[nV,zc];rw[N5 (l:=l) h]
theorem Dq{n:Nat}{fn:ah}{aC:List (Nat×am)}(h:bO n fn aC){bJ:List (Nat×am)}{id:Nat}(cq:n<=id):zc (aC++bJ) id=zc bJ id:=by
 have key:∀ l:List (Nat×am),(∀ x∈l,x∈aC)->zc (l++bJ) id=zc bJ id:=by
  intro l;induction l with
  |nil=>intro _;rfl
  |cons x l ih=>
   intro H;obtain⟨k,o⟩:=x;have G:=(h.aD k o (H _ (nL ..))).2.1;simp only[nV,zc];rw[ge (by omega)]
   exact ih λy F=>H y (nG _ F)
 exact key aC λ_ hx=>hx
theorem VY{n:Nat}{fn:ah}{aC:List (Nat×am)}(h:bO n fn aC){st:St}{a b c:am}{k m:Nat}(H:n<=k)(G:n<=m)(F:st.own=(0,a)::(1,b)::(aC++[(k,c)])):jE st m aC:=by
 refine Qc h (λid E h2=>?_) G (λ_ h=>am.jA G h)
 rw[F]
 simp only[zc]
 rw[ge (by omega),ge (by omega)]
 exact N5 λx hx=>by rw[nQ] at hx;rw[hx];show k≠id;omega
mutual
theorem zom{k m:Nat}(h:m<=k):∀ {s:ah},ah.lo m s->zA k s=s
 |.bp i o,hl=>by simp only[ah.lo] at hl;simp only[zA];rw[ge (by omega)]
 |.ar i,hl=>by simp only[ah.lo] at hl;simp only[zA];rw[ge (by omega)]
 |.ap i s j o,hl=>by simp only[ah.lo] at hl;simp only[zA];rw[ge (by omega)]
 |.a_s i s j o,hl=>by simp only[ah.lo] at hl;simp only[zA];rw[ge (by omega)]
 |.av i s j o,hl=>by simp only[ah.lo] at hl;simp only[zA];rw[ge (by omega)]
 |.yd i,hl=>by simp only[ah.lo] at hl;simp only[zA];rw[ge (by omega)]
 |.mp i,hl=>by simp only[ah.lo] at hl;simp only[zA];rw[ge (by omega)]
 |.bE l,hl=>by simp only[ah.lo] at hl;simp only[zA,X6 h hl]
 |.agg l,hl=>by simp only[ah.lo] at hl;simp only[zA,X6 h hl]
 |.fn f l,hl=>by simp only[ah.lo] at hl;simp only[zA,X6 h hl]
 |.d x,_=>rfl
 |.aW,_=>rfl
 |.junk,_=>rfl
theorem X6{k m:Nat}(h:m<=k):∀ {l:List ah},ah.a_ m l->yI k l=l
 | [],_=>rfl
 |s::l,hl=>by
  simp only[ah.a_] at hl;simp only[yI,zom h hl.1,X6 h hl.2]
end
theorem zd8{k m:Nat}(h:m<=k):∀ {o:am},o.lo m->qx k o=o
 |.box T l,hl=>by simp only[am.lo] at hl;simp only[qx,X6 h hl]
 |.aQ _ _ _,_=>rfl
 |.map _ _,_=>rfl
 |.cN k l,hl=>by simp only[am.lo] at hl;simp only[qx,X6 h hl]
theorem zbd{n k:Nat}{fn:ah}{aC:List (Nat×am)}(h:bO n fn aC)(H:n<=k)(o':am):qf k o' aC=aC:=by
 have key:∀ l:List (Nat×am),(∀ x∈l,x∈aC)->qf k o' l=l:=by
  intro l;induction l with
  |nil=>intro _;rfl
  |cons x l ih=>
   intro G;obtain⟨i,o⟩:=x;have F:=h.aD i o (G _ (nL ..));simp only[qf];rw[ge (by omega),zd8 H F.2.2,ih λy E=>G y (nG _ E)]
 exact key aC λ_ hx=>hx
theorem N6{n:Nat}{fn:ah}{aC:List (Nat×am)}(h:bO n fn aC){st:St}{a b c d:am}{k j m:Nat}(hj:n<=j)(H:n<=k)(G:n<=m)(F:st.own=(j,d)::(k,c)::(0,a)::(1,b)::aC):jE st m aC:=by
 refine Qc h (λid E h2=>?_) G (λ_ h=>am.jA G h)
 rw[F]
 simp only[zc]
 rw[ge (by omega),ge (by omega),ge (by omega),ge (by omega)]
theorem zg8{n:Nat}{fn:ah}{aC:List (Nat×am)}(h:bO n fn aC){st:St}{a b c d e:am}{i j k m:Nat}(hi:n<=i)(hj:n<=j)(H:n<=k)(G:n<=m)(F:st.own=(i,e)::(j,d)::(k,c)::(0,a)::(1,b)::aC):jE st m aC:=by
 refine Qc h (λid E h2=>?_) G (λ_ h=>am.jA G h)
 rw[F]
 simp only[zc]
 rw[ge (by omega),ge (by omega),ge (by omega),ge (by omega),ge (by omega)]
theorem bO.nj{n:Nat}{fn:ah}{aC:List (Nat×am)}(h:bO n fn aC):(∀ (x:am),¬(n+2,x)∈aC)/\(∀ (x:am),¬(n+1,x)∈aC)/\(∀ (x:am),¬(n,x)∈aC)/\(∀ (x:am),¬(0,x)∈aC)/\(∀ (x:am),¬(1,x)∈aC)/\(List.map (λx=>x.fst) aC).Nodup:=
 ⟨λx H=>by have:=(h.aD _ x H).2.1;omega,λx H=>by have:=(h.aD _ x H).2.1;omega,h.Yb⟩
theorem bO.mg{n:Nat}{fn:ah}{aC:List (Nat×am)}(h:bO n fn aC):(∀ (x:am),¬(n+1,x)∈aC)/\(∀ (x:am),¬(n,x)∈aC)/\(∀ (x:am),¬(0,x)∈aC)/\(∀ (x:am),¬(1,x)∈aC)/\(List.map (λx=>x.fst) aC).Nodup:=
 ⟨λx H=>by have:=(h.aD _ x H).2.1;omega,h.Yb⟩
theorem Yc{g:aj}{w:List Int}{tr:List (List Int)}{n:Nat}{fn:ah}{aC:List (Nat×am)}(h:bO n fn aC):(zB g w tr fn aC).map (·.1)=List.range n:=by
 rw[<-h.range];rfl
theorem wU{g:aj}{w:List Int}{tr:List (List Int)}{n:Nat}{fn:ah}{aC:List (Nat×am)}(h:bO n fn aC):∀ i o,(i,o)∈zB g w tr fn aC->i<n/\o.lo n:=by
 intro i o H
 have G:=h.la
 unfold zB at H
 rcases nE.1 H with e | e
 .cases e
  refine⟨by omega,?_⟩
  simp[am.lo,ah.a_,ah.lo,zj,aj.d,h.fn];omega
 .rcases nE.1 e with e | e
  .cases e;exact⟨by omega,trivial⟩
  .have:=h.aD i o e;exact⟨by omega,this.2.2⟩
theorem X7{g:aj}{w:List Int}{tr:List (List Int)}{n:Nat}{fn:ah}{aC:List (Nat×am)}(h:bO n fn aC):∀ i o,(i,o)∈zB g w tr fn aC->zc (zB g w tr fn aC) i=some o:=by
 intro i o H
 exact Y6 (by rw[Yc h];exact sU) H
end Go.V
namespace Go.V
open Go Go.Proofs Tryz
section
variable {σ:Type}
structure iH(P:Program)(g:aj)(w:List Int)(σ:Type) where
 F:σ->List aG->List Int->σ×Bool
 aC:σ->List (Nat×am)
 dU:Nat
 aJ:List ah
 n:Nat
 mv:List Nat
 hJ:∀ i∈mv,2<=i/\i<n
 iV:qX mv aJ=aJ
 fj:Nat->σ->Prop
 ok:∀ x,bO n (.fn dU aJ) (aC x)
 mono:∀ k x,fj k x->fj (k+1) x
 call:∀ k x tr a ai,fj k x->k<2^20->a.length<=4->ai.length<=24 ->
  aU P dU (.d (zh a) :: .d (aa ai)::aJ) (zB g w tr (.fn dU aJ) (aC x)) n (.d (.bool (F x a ai).2)) n (zB g w tr (.fn dU aJ) (aC (F x a ai).1)) mv/\fj (k+1) (F x a ai).1
abbrev vA(σ:Type):=(σ×List (List Int))×Bool
variable {P:Program} (g:aj) (w:List Int) (C:iH P g w σ)
def vp(x:σ×List (List Int))(a:List aG)(s:Nat)(ai:List Int):vA σ:=
 if a≠[]/\s &&& yg g.bM.aS≠0/\w.length<=ai.length then
  (if j4 g w ai=true then (((C.F x.1 a ai).1,jl x.2 ai),(C.F x.1 a ai).2) else ((x.1,jl x.2 ai),true)) else (x,true)
def Yd(wk:σ×List (List Int)->List aG->Nat->List Int->vA σ)(e:aP)(a:List aG)(s:Nat)(ai:List Int)(z:vA σ)(bf:Nat):vA σ:=
 if z.2=false then z else if xx g w<(ai++e.aK[bf]?.getD []).length then z else wk z.1 (a++[⟨e.id,bf,0⟩]) s (ai++e.aK[bf]?.getD [])
def ch(wk:σ×List (List Int)->List aG->Nat->List Int->vA σ)(e:aP)(a:List aG)(s:Nat)(ai:List Int)(x:σ×List (List Int))(k:Nat):vA σ:=
 (List.range k).foldl (Yd g w wk e a s ai) (x,true)
def qH(wk:σ×List (List Int)->List aG->Nat->List Int->vA σ)(a:List aG)(s:Nat)(ai:List Int)(y:vA σ)(e:aP):vA σ:=
 if y.2=false then y else if yw g.bM.aw s e.cU=0 then y else ch g w wk e a (yw g.bM.aw s e.cU) ai y.1 e.aK.length
def zY:Nat->σ×List (List Int)->List aG->Nat->List Int->vA σ
 |0,x,a,s,ai=>vp g w C x a s ai
 |f+1,x,a,s,ai=>if (vp g w C x a s ai).2=false then vp g w C x a s ai else
   g.aM.foldl (qH g w (λx a s ai=>zY f x a s ai) a s ai) ((vp g w C x a s ai).1,true)
theorem N7(wk:σ×List (List Int)->List aG->Nat->List Int->vA σ)(e:aP)(a:List aG)(s:Nat)(ai:List Int)(x:σ×List (List Int))(k:Nat)(h:(ch g w wk e a s ai x k).2=false):∀ d,ch g w wk e a s ai x (k+d)=ch g w wk e a s ai x k
 |0=>rfl
 |d+1=>by
  have ih:=N7 wk e a s ai x k h d;have:ch g w wk e a s ai x (k+d+1)=Yd g w wk e a s ai (ch g w wk e a s ai x (k+d)) (k+d):=by
   unfold ch;rw[qr,oI];rfl
  rw[<-pP,this,ih];unfold Yd;rw[gt h]
def zS:Nat->Nat
 |0=>1
 |f+1=>1+10*zS f
end
structure fN(g:aj)(w:List Int){σ:Type}(C:iH prog g w σ)(f:Nat):Prop where
 call:∀ k x tr a s ai,C.fj k x->k+zS f<=2^20->(∀ b∈tr,ym b)->a.length+f=4->s<8->ai.length<=24->ym ai ->
  aU prog 288 [.bp 0 0,.d (zh a),.d (u32 s),.d (aa ai)] (zB g w tr (.fn C.dU C.aJ) (C.aC x)) C.n
   (.d (.bool (zY g w C f (x,tr) a s ai).2)) C.n (zB g w (zY g w C f (x,tr) a s ai).1.2 (.fn C.dU C.aJ) (C.aC (zY g w C f (x,tr) a s ai).1.1)) C.mv
 inv:∀ k x tr a s ai,C.fj k x->k+zS f<=2^20->(∀ b∈tr,ym b)->a.length+f=4->s<8->ai.length<=24->ym ai ->
  C.fj (k+zS f) (zY g w C f (x,tr) a s ai).1.1/\∀ b∈(zY g w C f (x,tr) a s ai).1.2,ym b
theorem Zm{P:Program}{g:aj}{w:List Int}{σ:Type}(C:iH P g w σ){k x}(h:C.fj k x):∀ d,C.fj (k+d) x
 |0=>h
 |d+1=>C.mono _ _ (Zm C h d)
def uQ(g:aj)(w:List Int){σ:Type}(C:iH prog g w σ)(e:aP)(a:List aG)(s:Nat)(ai:List Int)(z:vA σ)(k:Nat):St:=
 {n:=78,next:=C.n+1,af:=[(0,.bp 0 0),(2,.d (zh a)),(3,.d (u32 s)),(4,.d (aa ai)),(6,.bp C.n 0),(27,.d (yk e.aK)),(28,.d (int e.aK.length)),(29,.d (int k))],own:=(C.n,.box 102 (e.row.map .d))::zB g w z.1.2 (.fn C.dU C.aJ) (C.aC z.1.1),ai:=C.n,aA:=C.mv}
theorem zkj(g:aj)(hg:aH g)(hc:bC g)(w:List Int)(hw:w.length<=24){σ:Type}(C:iH prog g w σ)(f:Nat)(hW:fN g w C f)(e:aP)(he:e∈g.aM)
  (k0:Nat) (x:σ) (tr:List (List Int)) (a:List aG) (s:Nat) (ai:List Int) (hI:C.fj k0 x) (hk:k0+2*zS f<=2^20) (ht:∀ b∈tr,ym b) (hl:a.length+(f+1)=4) (hs:s<8) (hb:ai.length<=24) (Hs:ym ai) :
  aU prog 296 [.bp 0 0,.d (.agg e.row),.d (zh a),.d (u32 s),.d (aa ai)] (zB g w tr (.fn C.dU C.aJ) (C.aC x)) C.n
   (.d (.bool (ch g w (λx a s ai=>zY g w C f x a s ai) e a s ai (x,tr) e.aK.length).2)) C.n
   (zB g w (ch g w (λx a s ai=>zY g w C f x a s ai) e a s ai (x,tr) e.aK.length).1.2 (.fn C.dU C.aJ) (C.aC (ch g w (λx a s ai=>zY g w C f x a s ai) e a s ai (x,tr) e.aK.length).1.1)) C.mv:=by
 have hr:=C.ok x
 have h2:=hr.la
 have F:0<C.n:=by omega
 have J:¬C.n=0:=by omega
 have L:¬C.n=1:=by omega
 have N:0∉C.mv:=λh=>by have:=(C.hJ 0 h).1;omega
 have P:C.n∉C.mv:=λh=>by have:=(C.hJ _ h).2;omega
 have hR:=hg.kJ hc
 have hS:=Wg g.aM e.id hR.aM.len hR.aM.aL
 have hL:=Gj e (by have:=hR.aM.cm e he;omega)
 have Gc:e.aK.length<=2:=by have:=(hg.dQ.aK e he).2.1;simp[aP.aK];omega
 have aI:¬(xg g.aM e.id).length=0:=λh=>hg.aL he (pN.mp h)
 have S:¬((xg g.aM e.id).length:Int)=0:=by omega
 refine dd func296 (by simp[ah.a_,ah.lo,F]) ?_
 simp+decide[Tryz.f296,zB,zj,aj.d,int,u32,aP.row,J,L]
 refine bw hS ?_
 simp+decide[int,zW,aI,S]
 refine zg hL ?_
 simp+decide[int,yk]
 refine qg (λk:Nat=>uQ g w C e a s ai (ch g w (λx a s ai=>zY g w C f x a s ai) e a s ai (x,tr) k) k)
  (λk=>k<=e.aK.length/\(ch g w (λx a s ai=>zY g w C f x a s ai) e a s ai (x,tr) k).2=true/\C.fj (k0+k*zS f) (ch g w (λx a s ai=>zY g w C f x a s ai) e a s ai (x,tr) k).1.1/\∀ b∈(ch g w (λx a s ai=>zY g w C f x a s ai) e a s ai (x,tr) k).1.2,ym b)
  (λk=>e.aK.length-k) 0 ⟨by simp,rfl,by simpa[ch] using hI,ht⟩ ?_ ?_
 .simp+decide[uQ,ch,zB,int,aa,u32,zj,aj.d,aP.row,yk,J,L]
  exact⟨hr.Yb,rfl,⟨F,hr.aJ (by omega)⟩,F,VX hr (nJ _) (by omega) rfl⟩
 intro k ⟨Gd,I,A,X⟩
 have G:=C.ok (ch g w (λx a s ai=>zY g w C f x a s ai) e a s ai (x,tr) k).1.1
 have H:ch g w (λx a s ai=>zY g w C f x a s ai) e a s ai (x,tr) (k+1)=Yd g w (λx a s ai=>zY g w C f x a s ai) e a s ai (ch g w (λx a s ai=>zY g w C f x a s ai) e a s ai (x,tr) k) k:=by
  unfold ch;rw[qr,oI];rfl
 by_cases E:k<e.aK.length
 case neg=>
  obtain rfl:k=e.aK.length:=by omega
  refine cy ?_
  simp+decide[uQ,zB,int,aa,u32,zj,aj.d,aP.row,yk,J,L];exact⟨I,G.vf,F,⟨by omega,G.aJ (nJ _)⟩,by omega,K0 G (nJ _) rfl⟩
 have K:=bG E
 generalize ch g w (λx a s ai=>zY g w C f x a s ai) e a s ai (x,tr) k=z at I A X G H
 obtain⟨⟨zx,ztr⟩,zb⟩:=z
 simp only at I A X G
 subst I
 obtain⟨fm,ef,ef1⟩:=bN E
 unfold Yd at H
 simp only[ef1,nW,rQ,oU] at H
 refine jb mixed 2 (uQ g w C e a s ai ((zx,ztr),true) k) rfl ?_ ?_
 .simp+decide[uQ,yo,qL,zB,int,aa,u32,zj,aj.d,aP.row,yk,J,L,K]
  exact⟨G.Yb,⟨F,G.aJ (by omega)⟩,F,VX G (nJ _) (by omega) rfl⟩
 simp only[yK]
 refine XB (ZH ?_) mixed
 have Y:C.fj (k0+(k+1)*zS f) zx:=by
  have:=Zm C A (zS f)
  rwa [oR,rF,<-pP]
 by_cases M:xx g w<(ai++fm).length
 .rw[gt M] at H
  refine cy ?_
  unfold xx at M;have Go:((ai.length:Int)+fm.length)=((ai++fm).length:Int):=by simp
  have Hx:fm.length<2^20:=hR.aM.du e he fm (by rw[<-ef];exact nF E)
  rw[nO] at M;cases Q:gn g.ba with
  |true=>
   rw[gt Q] at M;have Z:(24:Int)<(ai.length:Int)+fm.length:=by omega
   simp+decide[uQ,zB,int,aa,u32,zj,aj.d,aP.row,yk,J,L,E,K,ef,ef1,Z,Q,aB];refine⟨by omega,by omega,k+1,⟨E,by rw[H],by rw[H];exact Y,by rw[H];exact X⟩,by omega,?_⟩
   rw[H];exact⟨G.Yb,by omega,⟨F,G.aJ (by omega)⟩,rfl,F,VX G (nJ _) (by omega) rfl⟩
  |false=>
   rw[ge (by rw[Q];decide)] at M
   have W:(w.length:Int)<(ai.length:Int)+fm.length:=by omega
   by_cases Z:(24:Int)<(ai.length:Int)+fm.length
   .simp+decide[uQ,zB,int,aa,u32,zj,aj.d,aP.row,yk,J,L,E,K,ef,ef1,Z,Q,aB]
    refine⟨by omega,by omega,k+1,⟨E,by rw[H],by rw[H];exact Y,by rw[H];exact X⟩,by omega,?_⟩
    rw[H];exact⟨G.Yb,by omega,⟨F,G.aJ (by omega)⟩,rfl,F,VX G (nJ _) (by omega) rfl⟩
   .simp+decide[uQ,zB,int,aa,u32,zj,aj.d,aP.row,yk,J,L,E,K,ef,ef1,Z,W,Q,aB]
    refine⟨by omega,by omega,k+1,⟨E,by rw[H],by rw[H];exact Y,by rw[H];exact X⟩,by omega,?_⟩
    rw[H];exact⟨G.Yb,by omega,⟨F,G.aJ (by omega)⟩,rfl,F,VX G (nJ _) (by omega) rfl⟩
 rw[ge M] at H
 have H0:(ai++fm).length<=24:=by
  unfold xx at M;split at M <;> omega
 have Hc:yI (C.n+1) C.aJ=C.aJ:=X6 (by omega) (G.aJ (nJ _))
 have Hd:∀ o',qf (C.n+1) o' (C.aC zx)=C.aC zx:=λo'=>zbd G (by omega) o'
 let S2:St:={n:=78,next:=C.n+2,af:=[(0,.bp 0 0),(2,.d (zh a)),(3,.d (u32 s)),(4,.d (aa ai)),(6,.bp C.n 0),(11,.d (int k)),(14,.ar (C.n+1)),(27,.d (yk e.aK)),(28,.d (int e.aK.length)),(29,.d (int k))],own:=(C.n+1,.aQ 3 1 ((ai++fm).map λn=>[int n]))::(C.n,.box 102 (e.row.map .d))::zB g w ztr (.fn C.dU C.aJ) (C.aC zx),ai:=C.n,aA:=(C.n+1)::C.mv}
 refine jb mixed 4 S2 rfl ?_ ?_
 .have Z:¬(24:Int)<(ai.length:Int)+fm.length:=by rw[nO] at H0;omega
  have Hx:fm.length<2^20:=hR.aM.du e he fm (by rw[<-ef];exact nF E)
  unfold xx at M;rw[nO] at M;cases Q:gn g.ba with
  |true=>
   simp+decide[uQ,yo,qL,zB,int,aa,u32,zj,aj.d,aP.row,yk,J,L,E,K,ef,ef1,Z,Q,aB,S2,Hc,Hd];exact⟨by omega,by omega,by unfold maxLen;omega,by omega,by unfold maxLen;omega,G.mg,G.aJ (by omega),N6 G (by omega) (nJ _) (by omega) rfl⟩
  |false=>
   rw[ge (by rw[Q];decide)] at M
   have W:¬(w.length:Int)<(ai.length:Int)+fm.length:=by omega
   simp+decide[uQ,yo,qL,zB,int,aa,u32,zj,aj.d,aP.row,yk,J,L,E,K,ef,ef1,Z,W,Q,aB,S2,Hc,Hd];exact⟨by omega,by omega,by unfold maxLen;omega,by omega,by unfold maxLen;omega,G.mg,G.aJ (by omega),N6 G (by omega) (nJ _) (by omega) rfl⟩
 simp only[yK]
 let S3:St:={n:=78,next:=C.n+3,af:=[(0,.bp 0 0),(2,.d (zh a)),(3,.d (u32 s)),(4,.d (aa ai)),(6,.bp C.n 0),(14,.ar (C.n+1)),(15,.ar (C.n+2)),(27,.d (yk e.aK)),(28,.d (int e.aK.length)),(29,.d (int k))],own:=(C.n+2,.aQ 96 3 ((a++[(⟨e.id,(k:Int),0⟩:aG)]).map aG.row))::(C.n+1,.aQ 3 1 ((ai++fm).map λn=>[int n]))::(C.n,.box 102 (e.row.map .d))::zB g w ztr (.fn C.dU C.aJ) (C.aC zx),ai:=C.n,aA:=(C.n+1)::C.mv}
 refine JL S3 ?_ ?_
 .refine kh 9 [] ?_
  simp+decide[S2,S3,qL,zB,int,aa,u32,zj,aj.d,aP.row,aG.row,yk,zh,J,L,aB];refine⟨⟨by omega,by unfold maxLen;omega⟩,⟨by omega,by unfold maxLen;omega⟩,by rfl,?_⟩
  exact⟨G.nj,G.aJ (by omega),zg8 G (by omega) (by omega) (nJ _) (by omega) rfl⟩
 have G2:=G.lA
 refine zaq C.mv (by intro id cq;simp only[S3,nE] at cq ⊢;exact cq.elim (λh=>.inl (by omega)) .inr) ?_
 refine ZI [C.n+2,C.n+1] ?_
 refine cy ?_
 simp+decide[S3,zB,int,aa,u32,zj,aj.d,aP.row,yk,zh,J,L,aB,G2]
 have Hi:ym (ai++fm):=by
  intro y hy;rcases nM.1 hy with h | h
  .exact Hs y h
  .have hE:=hg.aM.d_ e he
   have Ga:gr g.inv fm:=by
    have hm:fm∈e.aK:=by rw[<-ef];exact nF E
    rcases nE.1 hm with h1 | h1
    .rw[h1];exact hE.du
    .exact hE.cm fm h1
   have:=Ga.bi y h
   have Gr:=hg.bi;simp only[xd,nI,nD] at this;omega
 have F0:k*zS f<=1*zS f:=oY _ (by omega)
 have O:=hW.call (k0+k*zS f) zx ztr (a++[⟨e.id,(k:Int),0⟩]) s (ai++fm) A (by omega) X (by simp;omega) hs H0 Hi
 have T:=hW.inv (k0+k*zS f) zx ztr (a++[⟨e.id,(k:Int),0⟩]) s (ai++fm) A (by omega) X (by simp;omega) hs H0 Hi
 generalize zY g w C f (zx,ztr) (a++[⟨e.id,(k:Int),0⟩]) s (ai++fm)=z2 at O T H
 obtain⟨⟨z2x,z2t⟩,z2b⟩:=z2
 simp only at O T
 have V:=C.ok z2x
 refine K2 C.hJ (n:=C.n) (s:=.d (.bool z2b)) (aJ:=[]) (aR:=zB g w ztr (.fn C.dU C.aJ) (C.aC zx)) (own':=zB g w z2t (.fn C.dU C.aJ) (C.aC z2x)) (by rfl) (by simp[ah.a_,ah.lo,F]) (by simp) (Yc G) ?_ (wU V) trivial ?_ (by simp[kR,zQ,N,P]) (xW.cons (by simp[wE,qX,zQ]) (xW.la G)) ?_
 .intro i o hm
  obtain⟨l1,l2⟩:=wU G i o hm;refine⟨l1,l2,?_⟩
  change zc ((C.n,_)::zB g w ztr (.fn C.dU C.aJ) (C.aC zx)) i=some o
  simp only[zc];rw[ge (by omega)]
  exact X7 G i o hm
 .simpa[zh,aa,int,u32] using O
 have Gb:∀ bJ:List (Nat×am),zc (C.aC z2x++bJ) C.n=zc bJ C.n:=λbJ=>Dq V (nJ _)
 have Hp:1<C.n:=by omega
 cases z2b with
 |false=>
  have B:=N7 g w (λx a s ai=>zY g w C f x a s ai) e a s ai (x,tr) (k+1) (by rw[H]) (e.aK.length-(k+1))
  rw[show k+1+(e.aK.length-(k+1))=e.aK.length by omega,H] at B
  simp+decide[xr,wT G,F,Hp,zB,zj,aj.d,int,aa,u32,B];exact⟨V.vf,V.aJ (nJ _),VY V (nJ _) (nJ _) rfl⟩
 |true=>
  have H1:¬0=C.n:=by omega
  have H2:¬1=C.n:=by omega
  simp+decide[xr,wT G,F,Hp,zB,uQ,J,L,H1,H2,Gb,zj,aj.d,int,aa,u32,zh,yk,aP.row,aB];have Hb:C.fj (k0+(k+1)*zS f) z2x:=by
   have:=T.1
   rwa [oR,rF,<-pP]
  refine⟨by omega,k+1,⟨E,by rw[H],by rw[H];exact Hb,by rw[H];exact T.2⟩,by omega,?_⟩
  rw[H];exact⟨V.Yb,by omega,V.aJ (by omega),rfl,VY V (nJ _) (by omega) rfl⟩
end Go.V
namespace Go.V
open Go Go.Proofs Tryz
theorem N8{g:aj}(F:aH g){e:aP}(E:e∈g.aM){fm:List Int}(K:fm∈e.aK):ym fm:=by
 intro y h
 have J:=F.aM.d_ e E
 have H:gr g.inv fm:=by
  rcases nE.1 K with L | L
  .rw[L];exact J.du
  .exact J.cm fm L
 have:=H.bi y h
 have G:=F.bi
 simp only[xd,nI,nD] at this
 omega
theorem ym.fC{a b:List Int}(H:ym a)(G:ym b):ym (a++b):=by
 intro y F
 rcases nM.1 F with h | h
 .exact H y h
 .exact G y h
theorem N9{g:aj}(O:aH g){w:List Int}(Q:w.length<=24){σ:Type}{C:iH prog g w σ}{f:Nat}(T:fN g w C f){e:aP}(V:e∈g.aM)
  {k0:Nat} {x:σ} {tr:List (List Int)} {a:List aG} {s:Nat} {ai:List Int} (X:C.fj k0 x) (Y:k0+2*zS f<=2^20) (Z:∀ b∈tr,ym b) (A:a.length+(f+1)=4) (hs:s<8) (G:ym ai) :
  ∀ k,k<=e.aK.length->C.fj (k0+k*zS f) (ch g w (λx a s ai=>zY g w C f x a s ai) e a s ai (x,tr) k).1.1/\∀ b∈(ch g w (λx a s ai=>zY g w C f x a s ai) e a s ai (x,tr) k).1.2,ym b
 |0,_=>by simpa[ch] using⟨X,Z⟩
 |k+1,hle=>by
  have ih:=N9 O Q T V X Y Z A hs G k (by omega)
  have L:e.aK.length<=2:=by have:=(O.dQ.aK e V).2.1;simp[aP.aK];omega
  have H:ch g w (λx a s ai=>zY g w C f x a s ai) e a s ai (x,tr) (k+1)=Yd g w (λx a s ai=>zY g w C f x a s ai) e a s ai (ch g w (λx a s ai=>zY g w C f x a s ai) e a s ai (x,tr) k) k:=by
   unfold ch;rw[qr,oI];rfl
  rw[H];generalize ch g w (λx a s ai=>zY g w C f x a s ai) e a s ai (x,tr) k=z at ih
  obtain⟨⟨zx,zt⟩,zb⟩:=z;simp only at ih
  have F:C.fj (k0+(k+1)*zS f) zx:=by
   have:=Zm C ih.1 (zS f)
   rwa [oR,rF,<-pP]
  have E:k<e.aK.length:=by omega
  have J:e.aK[k]?.getD []=e.aK[k]:=by rw[ac E];rfl
  have M:k*zS f<=1*zS f:=oY _ (by omega)
  unfold Yd;split
  .exact⟨F,ih.2⟩
  .split
   .exact⟨F,ih.2⟩
   .rename_i K
    have B:(ai++e.aK[k]?.getD []).length<=24:=by
     unfold xx at K;split at K <;> omega
    have:=T.inv (k0+k*zS f) zx zt (a++[⟨e.id,(k:Int),0⟩]) s (ai++e.aK[k]?.getD []) ih.1 (by omega) ih.2 (by simp;omega) hs B (G.fC (by rw[J];exact N8 O V (nF E)))
    refine⟨?_,this.2⟩
    have I:=this.1;rwa [oR,rF,<-pP]
theorem Na:∀ (a b:Fin 8),(wB .and .u32 (a.val:Int) (b.val:Int))=((a.val &&& b.val:Nat):Int):=by decide +kernel
theorem zd9(g:aj)(A:aH g)(B:bC g)(w:List Int)(I:w.length<=24){σ:Type}(C:iH prog g w σ)
  (k0:Nat) (x:σ) (tr:List (List Int)) (a:List aG) (s:Nat) (ai:List Int) (N:C.fj k0 x) (P:k0+zS 0<=2^20) (S:∀ b∈tr,ym b) (W:a.length+0=4) (hs:s<8) (hb:ai.length<=24) (V:ym ai) :
  aU prog 288 [.bp 0 0,.d (zh a),.d (u32 s),.d (aa ai)] (zB g w tr (.fn C.dU C.aJ) (C.aC x)) C.n
   (.d (.bool (zY g w C 0 (x,tr) a s ai).2)) C.n (zB g w (zY g w C 0 (x,tr) a s ai).1.2 (.fn C.dU C.aJ) (C.aC (zY g w C 0 (x,tr) a s ai).1.1)) C.mv:=by
 have hr:=C.ok x
 have h2:=hr.la
 have L:0<C.n:=by omega
 have M:1<C.n:=by omega
 have Q:0∉C.mv:=λh=>by have:=(C.hJ 0 h).1;omega
 have X:=C.iV
 have E:¬C.n=0:=by omega
 have K:¬C.n=1:=by omega
 have H:a.length=4:=by omega
 have Y:=YF g.bM.aS 0 (λq hq=>A.j3.ok.2.1 q hq) (by omega)
 have G:=Na ⟨s,hs⟩ ⟨yg g.bM.aS,Y⟩
 simp only at G
 have Z:a≠[]:=by intro h;rw[h] at H;cases H
 unfold zY vp
 refine dd func288 (by simp[ah.a_,ah.lo,L]) ?_
 by_cases c1:s &&& yg g.bM.aS=0
 .rw[ge (λh=>h.2.1 c1)]
  simp+decide[f288,zB,zj,aj.d,int,aa,u32,zh,E,K,H,G,c1];exact⟨hr.vf,by omega,⟨by omega,hr.aJ (nJ _)⟩,by omega,vK hr rfl⟩
 by_cases c2:w.length<=ai.length
 case neg=>
  rw[ge (λh=>c2 h.2.2)]
  simp+decide[f288,zB,zj,aj.d,int,aa,u32,zh,E,K,H,G,c1,c2];exact⟨hr.vf,by omega,⟨by omega,hr.aJ (nJ _)⟩,by omega,vK hr rfl⟩
 rw[gt ⟨Z,c1,c2⟩]
 have hF:=MY g w tr C.n (.fn C.dU C.aJ) (C.aC x) hr A B ai hb I V S
 simp+decide[f288,zB,zj,aj.d,int,aa,u32,zh,E,K,H,G,c1,c2]
 refine Dp (n:=C.n) (s:=.d (.bool (j4 g w ai))) (aJ:=[]) (aR:=zB g w tr (.fn C.dU C.aJ) (C.aC x)) (own':=zB g w (jl tr ai) (.fn C.dU C.aJ) (C.aC x)) (by rfl) (by simp[ah.a_,ah.lo,L]) (by simp) (Yc hr) ?_ (wU hr) trivial ?_ ?_
 .intro i o hm
  obtain⟨l1,l2⟩:=wU hr i o hm;refine⟨l1,l2,?_⟩
  change zc (zB g w tr (.fn C.dU C.aJ) (C.aC x)) i=some o
  exact X7 hr i o hm
 .simpa[zh,aa,int,u32] using hF
 cases O:j4 g w ai with
 |false=>
  simp+decide[xr,wT hr,L,M,zB,zj,aj.d,int,aa,u32,zh,E,K,H,O];exact⟨hr.vf,hr.aJ (nJ _),vK hr rfl⟩
 |true=>
  simp+decide[xr,wT hr,L,M,zB,zj,aj.d,int,aa,u32,zh,E,K,H,O];have J:=C.ok (C.F x a ai).1;have T:=(C.call k0 x (jl tr ai) a ai N (by unfold zS at P;omega) (by omega) hb).1
  generalize C.F x a ai=z at T J;obtain⟨zx,zb⟩:=z;simp only at T J
  refine K2 C.hJ (n:=C.n) (s:=.d (.bool zb)) (aJ:=C.aJ) (aR:=zB g w (jl tr ai) (.fn C.dU C.aJ) (C.aC x)) (own':=zB g w (jl tr ai) (.fn C.dU C.aJ) (C.aC zx)) (by rfl) (by simp[ah.a_,ah.lo,hr.aJ (nJ _)]) (by simp) (Yc hr) ?_ (wU J) trivial ?_ (by simp[kR,zQ,Q,X]) (xW.la hr) ?_
  .intro i o hm
   obtain⟨l1,l2⟩:=wU hr i o hm;refine⟨l1,l2,?_⟩
   change zc (zB g w (jl tr ai) (.fn C.dU C.aJ) (C.aC x)) i=some o
   exact X7 hr i o hm
  .simpa[zh,aa,int,u32] using T
  cases zb with
  |false=>
   simp+decide[xr,wT hr,L,M,zB,zj,aj.d,int,aa,u32,zh,E,K,H,O];exact⟨J.vf,hr.aJ (nJ _),vK J rfl⟩
  |true=>
   simp+decide[xr,wT hr,L,M,zB,zj,aj.d,int,aa,u32,zh,E,K,H,O];exact⟨J.vf,hr.aJ (nJ _),vK J rfl⟩
theorem K3{tr:List (List Int)}{ai:List Int}(H:∀ b∈tr,ym b)(G:ym ai):∀ b∈jl tr ai,ym b:=by
 intro b h
 unfold jl at h
 split at h
 .exact H b h
 .rcases nM.1 h with h | h
  .exact H b h
  .rw[nQ.1 h];exact G
theorem Nb{g:aj}{w:List Int}{σ:Type}{C:iH prog g w σ}{k0:Nat}{x:σ}{tr:List (List Int)}{a:List aG}{s:Nat}{ai:List Int}(G:C.fj k0 x)(F:k0<2^20)(E:∀ b∈tr,ym b)(K:a.length<=4)(J:ai.length<=24)(H:ym ai):
  C.fj (k0+1) (vp g w C (x,tr) a s ai).1.1/\∀ b∈(vp g w C (x,tr) a s ai).1.2,ym b:=by
 unfold vp
 split
 .split
  .exact⟨(C.call k0 x tr a ai G F K J).2,K3 E H⟩
  .exact⟨C.mono _ _ G,K3 E H⟩
 .exact⟨C.mono _ _ G,E⟩
theorem zg9(g:aj)(G:aH g)(F:bC g)(w:List Int)(E:w.length<=24){σ:Type}(C:iH prog g w σ):fN g w C 0 where
 call k x tr a s ai K J L M hs O H:=zd9 g G F w E C k x tr a s ai K J L M hs O H
 inv k x tr a s ai K J L M hs O H:=by
  have:=Nb (C:=C) (s:=s) (a:=a) K (by unfold zS at J;omega) L (by omega) O H
  unfold zY zS;exact this
theorem Nc{g:aj}(F:aH g){w:List Int}(E:w.length<=24){σ:Type}{C:iH prog g w σ}{f:Nat}(K:fN g w C f){e:aP}(J:e∈g.aM)
  {k0:Nat} {x:σ} {tr:List (List Int)} {b0:Bool} {a:List aG} {s:Nat} {ai:List Int} (L:C.fj k0 x) (M:k0+2*zS f<=2^20) (O:∀ b∈tr,ym b) (Q:a.length+(f+1)=4) (hs:yw g.bM.aw s e.cU<8) (H:ym ai) :
  C.fj (k0+2*zS f) (qH g w (λx a s ai=>zY g w C f x a s ai) a s ai ((x,tr),b0) e).1.1/\∀ b∈(qH g w (λx a s ai=>zY g w C f x a s ai) a s ai ((x,tr),b0) e).1.2,ym b:=by
 have G:e.aK.length<=2:=by have:=(F.dQ.aK e J).2.1;simp[aP.aK];omega
 unfold qH
 split
 .exact⟨Zm C L _,O⟩
 split
 .exact⟨Zm C L _,O⟩
 have h:=N9 F E K J L M O Q hs H e.aK.length (nJ _)
 refine⟨?_,h.2⟩
 have T:=Zm C h.1 ((2-e.aK.length)*zS f)
 rwa [pP,<-oR,show e.aK.length+(2-e.aK.length)=2 by omega] at T
theorem Nh{g:aj}(K:aH g){w:List Int}(J:w.length<=24){σ:Type}{C:iH prog g w σ}{f:Nat}(L:fN g w C f){a:List aG}{s:Nat}{ai:List Int}(M:a.length+(f+1)=4)(F:ym ai):
  ∀ (l:List aP),(∀ e∈l,e∈g.aM)->∀ (k0:Nat) (y:vA σ),C.fj k0 y.1.1->k0+l.length*(2*zS f)<=2^20->(∀ b∈y.1.2,ym b) ->
   C.fj (k0+l.length*(2*zS f)) (l.foldl (qH g w (λx a s ai=>zY g w C f x a s ai) a s ai) y).1.1/\∀ b∈(l.foldl (qH g w (λx a s ai=>zY g w C f x a s ai) a s ai) y).1.2,ym b
 | [],_,k0,y,O,_,Q=>by simpa using⟨O,Q⟩
 |e::l,T,k0,y,O,V,Q=>by
  have H:=K.j3.ok.1;have E:yw g.bM.aw s e.cU<8:=Gf (λq X=>⟨⟨(H q X).1.1,by have:=(H q X).1.2;omega⟩,(H q X).2.1,by have:=(H q X).2.2;omega⟩) s e.cU
  have G:(e::l).length*(2*zS f)=2*zS f+l.length*(2*zS f):=by
   rw[nP,oR,rF,tR]
  rw[G] at V ⊢;obtain⟨⟨yx,yt⟩,yb⟩:=y;have Y:=Nc K J L (T e (nL ..)) (b0:=yb) (a:=a) (s:=s) O (by omega) Q M E F
  have Z:=Nh K J L (s:=s) M F l (λe A=>T e (nG _ A)) (k0+2*zS f) _ Y.1 (by omega) Y.2
  rw[oK,<-pP];exact Z
theorem zkk{g:aj}(F:aH g){w:List Int}(E:w.length<=24){σ:Type}{C:iH prog g w σ}{f:Nat}(K:fN g w C f)(k:Nat)(x:σ)(tr:List (List Int))(a:List aG)(s:Nat)(ai:List Int)
  (J:C.fj k x) (L:k+zS (f+1)<=2^20) (M:∀ b∈tr,ym b) (O:a.length+(f+1)=4) (Q:ai.length<=24) (H:ym ai) :
  C.fj (k+zS (f+1)) (zY g w C (f+1) (x,tr) a s ai).1.1/\∀ b∈(zY g w C (f+1) (x,tr) a s ai).1.2,ym b:=by
 have G:zS (f+1)=1+10*zS f:=by rw[zS]
 rw[G] at L ⊢
 have T:=Nb (C:=C) (s:=s) (a:=a) J (by omega) M (by omega) Q H
 have V:g.aM.length*(2*zS f)<=5*(2*zS f):=oY _ F.dQ.cW
 unfold zY
 split
 .refine⟨?_,T.2⟩
  have:=Zm C T.1 (10*zS f)
  rwa [pP] at this
 .have h:=Nh F E K (s:=s) O H g.aM (λ_ h=>h) (k+1) ((vp g w C (x,tr) a s ai).1,true) T.1 (by omega) T.2
  refine⟨?_,h.2⟩
  have X:=Zm C h.1 (10*zS f-g.aM.length*(2*zS f));rwa [show k+1+g.aM.length*(2*zS f)+(10*zS f-g.aM.length*(2*zS f))=k+(1+10*zS f) by omega] at X
theorem Ni{g:aj}{w:List Int}{σ:Type}{wk:σ×List (List Int)->List aG->Nat->List Int->vA σ}{a:List aG}{s:Nat}{ai:List Int}:
  ∀ (l:List aP) (y:vA σ),y.2=false->l.foldl (qH g w wk a s ai) y=y
 | [],_,_=>rfl
 |e::l,y,h=>by
  have H:qH g w wk a s ai y e=y:=by unfold qH;rw[gt h]
  rw[oK,H];exact Ni l y h
theorem zkl{α β:Type}(F:β->α->β)(y:β)(l:List α)(k:Nat)(h:k<l.length):(l.take (k+1)).foldl F y=F ((l.take k).foldl F y) l[k]:=by
 rw[nX h,oI];rfl
theorem zkm{g:aj}{w:List Int}{σ:Type}{wk:σ×List (List Int)->List aG->Nat->List Int->vA σ}{a:List aG}{s:Nat}{ai:List Int}(l:List aP)(y:vA σ)(k:Nat)(h:((l.take k).foldl (qH g w wk a s ai) y).2=false):
  l.foldl (qH g w wk a s ai) y=(l.take k).foldl (qH g w wk a s ai) y:=by
 conv=>lhs;rw[<-oT k l,oI]
 exact Ni _ _ h
theorem Nj{i:Nat}{o:am}:∀ {l r:List (Nat×am)},zc l i=some o->zc (l++r) i=some o
 | [],_,h=>by simp[zc] at h
 |(j,x)::l,r,h=>by
  simp only[nV,zc] at h ⊢;by_cases c:j=i
  .rw[gt c] at h ⊢;exact h
  .rw[ge c] at h ⊢;exact Nj h
theorem Nk{n:Nat}{fn:ah}{aC:List (Nat×am)}(h:bO n fn aC)(bJ:List (Nat×am)):xr n (aC++bJ)=xr n bJ:=by
 have key:∀ l:List (Nat×am),(∀ x∈l,x∈aC)->xr n (l++bJ)=xr n bJ:=by
  intro l;induction l with
  |nil=>intro _;rfl
  |cons x l ih=>
   intro H;obtain⟨i,o⟩:=x;have:=(h.aD i o (H _ (nL ..))).2.1
   simp only[nV,xr];rw[gt this];exact ih λy G=>H y (nG _ G)
 exact key aC λ_ hx=>hx
def zus{g:aj}{w:List Int}{σ:Type}(C:iH prog g w σ)(k:Nat)(x:σ)(tr:List (List Int))(b:Bool):Prop:=b=true/\C.fj k x/\∀ b∈tr,ym b
theorem zea(g:aj)(hg:aH g)(hc:bC g)(w:List Int)(hw:w.length<=24){σ:Type}(C:iH prog g w σ)(f:Nat)(hW:fN g w C f)
  (k0:Nat) (x:σ) (tr:List (List Int)) (a:List aG) (s:Nat) (ai:List Int) (hI:C.fj k0 x) (hk:k0+zS (f+1)<=2^20) (ht:∀ b∈tr,ym b) (hl:a.length+(f+1)=4) (hs:s<8) (hb:ai.length<=24) (H1:ym ai) :
  aU prog 288 [.bp 0 0,.d (zh a),.d (u32 s),.d (aa ai)] (zB g w tr (.fn C.dU C.aJ) (C.aC x)) C.n
   (.d (.bool (zY g w C (f+1) (x,tr) a s ai).2)) C.n (zB g w (zY g w C (f+1) (x,tr) a s ai).1.2 (.fn C.dU C.aJ) (C.aC (zY g w C (f+1) (x,tr) a s ai).1.1)) C.mv:=by
 have hr:=C.ok x
 have h2:=hr.la
 have L:0<C.n:=by omega
 have Q:1<C.n:=by omega
 have H2:0∉C.mv:=λh=>by have:=(C.hJ 0 h).1;omega
 have G2:C.n∉C.mv:=λh=>by have:=(C.hJ _ h).2;omega
 have F1:=C.iV
 have M:¬C.n=0:=by omega
 have O:¬C.n=1:=by omega
 have Z:¬a.length=4:=by omega
 have E:¬(a.length:Int)=4:=by omega
 have Fu:zS (f+1)=1+10*zS f:=by rw[zS]
 have Fk:=YF g.bM.aS 0 (λq hq=>hg.j3.ok.2.1 q hq) (by omega)
 have X:=Na ⟨s,hs⟩ ⟨yg g.bM.aS,Fk⟩
 simp only at X
 unfold zY
 obtain⟨z0,K⟩:∃ z0,vp g w C (x,tr) a s ai=z0:=⟨_,rfl⟩
 rw[K]
 obtain⟨⟨x1,tr1⟩,b1⟩:=z0
 refine za3 func288 rfl mO (by simp[ah.a_,ah.lo,L]) ?_
 refine zsp mixed 3 {n:=79,next:=C.n,af:=[(0,.bp 0 0),(1,.d (zh a)),(2,.d (u32 s)),(3,.d (aa ai))],own:=zB g w tr1 (.fn C.dU C.aJ) (C.aC x1),ai:=C.n,aA:=C.mv} (zus C (k0+1) x1 tr1 b1) rfl ?_ ?_
 .by_cases c0:a.length=0
  .have A:¬(0:Int)<(a.length:Int):=by omega
   unfold vp at K;rw[ge (λh=>h.1 (pN.1 c0))] at K
   cases K;simp+decide[f288,yo,zB,zj,aj.d,int,aa,u32,zh,M,O,Z,E,zm,X,c0];exact⟨⟨rfl,C.mono _ _ hI,ht⟩,hr.vf,L,⟨Q,hr.aJ (nJ _)⟩,Q,vK hr rfl⟩
  have Fl:a≠[]:=by intro h;rw[h] at c0;exact c0 rfl
  have A:(0:Int)<(a.length:Int):=by omega
  have T:0<a.length:=by omega
  by_cases c1:s &&& yg g.bM.aS=0
  .unfold vp at K
   rw[ge (λh=>h.2.1 c1)] at K
   cases K;simp+decide[f288,yo,zB,zj,aj.d,int,aa,u32,zh,M,O,Z,E,zm,X,A,T,c1];exact⟨⟨rfl,C.mono _ _ hI,ht⟩,hr.vf,L,⟨Q,hr.aJ (nJ _)⟩,Q,vK hr rfl⟩
  by_cases c2:w.length<=ai.length
  case neg=>
   unfold vp at K;rw[ge (λh=>c2 h.2.2)] at K
   cases K;simp+decide[f288,yo,zB,zj,aj.d,int,aa,u32,zh,M,O,Z,E,zm,X,A,T,c1,c2];exact⟨⟨rfl,C.mono _ _ hI,ht⟩,hr.vf,L,⟨Q,hr.aJ (nJ _)⟩,Q,vK hr rfl⟩
  unfold vp at K;rw[gt ⟨Fl,c1,c2⟩] at K;have hF:=MY g w tr C.n (.fn C.dU C.aJ) (C.aC x) hr hg hc ai hb hw H1 ht;simp+decide[f288,yo,zB,zj,aj.d,int,aa,u32,zh,M,O,Z,E,zm,X,A,T,c1,c2];refine Dp (n:=C.n) (s:=.d (.bool (j4 g w ai))) (aJ:=[]) (aR:=zB g w tr (.fn C.dU C.aJ) (C.aC x)) (own':=zB g w (jl tr ai) (.fn C.dU C.aJ) (C.aC x)) (by rfl) (by simp[ah.a_,ah.lo,L]) (by simp) (Yc hr) ?_ (wU hr) trivial ?_ ?_
  .intro i o hm
   obtain⟨l1,l2⟩:=wU hr i o hm;refine⟨l1,l2,?_⟩
   change zc (zB g w tr (.fn C.dU C.aJ) (C.aC x)) i=some o
   exact X7 hr i o hm
  .simpa[zh,aa,int,u32] using hF
  cases H0:j4 g w ai with
  |false=>
   rw[H0,ge Bool.false_ne_true] at K;cases K;simp+decide[xr,wT hr,L,Q,zB,zj,aj.d,int,aa,u32,zh,M,O,Z,E,A,T,zm,H0];exact⟨⟨rfl,C.mono _ _ hI,K3 ht H1⟩,hr.vf,hr.aJ (nJ _),vK hr rfl⟩
  |true=>
   rw[H0,gt rfl] at K;simp+decide[xr,wT hr,L,Q,zB,zj,aj.d,int,aa,u32,zh,M,O,Z,E,A,T,zm,H0];have B:=C.ok (C.F x a ai).1;have Ga:=(C.call k0 x (jl tr ai) a ai hI (by unfold zS at hk;omega) (by omega) hb).1
   have Gb:=(C.call k0 x (jl tr ai) a ai hI (by unfold zS at hk;omega) (by omega) hb).2
   generalize C.F x a ai=z at Ga B Gb K;obtain⟨zx,zb⟩:=z;cases K;simp only at Ga B Gb
   refine K2 C.hJ (n:=C.n) (s:=.d (.bool zb)) (aJ:=C.aJ) (aR:=zB g w (jl tr ai) (.fn C.dU C.aJ) (C.aC x)) (own':=zB g w (jl tr ai) (.fn C.dU C.aJ) (C.aC zx)) (by rfl) (by simp[ah.a_,ah.lo,hr.aJ (nJ _)]) (by simp) (Yc hr) ?_ (wU B) trivial ?_ (by simp[kR,zQ,H2,F1]) (xW.la hr) ?_
   .intro i o hm
    obtain⟨l1,l2⟩:=wU hr i o hm;refine⟨l1,l2,?_⟩
    change zc (zB g w (jl tr ai) (.fn C.dU C.aJ) (C.aC x)) i=some o
    exact X7 hr i o hm
   .simpa[zh,aa,int,u32] using Ga
   cases zb with
   |false=>
    simp+decide[xr,wT hr,L,Q,zB,zj,aj.d,int,aa,u32,zh,M,O,Z,E,A,T,zm,H0];exact⟨B.vf,hr.aJ (nJ _),vK B rfl⟩
   |true=>
    simp+decide[xr,wT hr,L,Q,zB,zj,aj.d,int,aa,u32,zh,M,O,Z,E,A,T,zm,H0];exact⟨⟨rfl,Gb,K3 ht H1⟩,B.vf,B.aJ (nJ _),vK B rfl⟩
 rintro⟨rfl,Fm,Fn⟩
 simp only[yK,rQ,oU]
 refine cy ?_
 simp+decide[zB,zj,aj.d,int,aa,u32,zh,M,O,zm]
 have Gc:=C.ok x1
 refine qg (λk:Nat=>{n:=79,next:=C.n,af:=[(0,.bp 0 0),(1,.d (zh a)),(2,.d (u32 s)),(3,.d (aa ai)),(56,.d (zm g.aM)),(57,.d (int g.aM.length)),(58,.d (int k))],own:=zB g w ((g.aM.take k).foldl (qH g w (λx a s ai=>zY g w C f x a s ai) a s ai) ((x1,tr1),true)).1.2 (.fn C.dU C.aJ) (C.aC ((g.aM.take k).foldl (qH g w (λx a s ai=>zY g w C f x a s ai) a s ai) ((x1,tr1),true)).1.1),ai:=C.n,aA:=C.mv})
  (λk=>k<=g.aM.length/\((g.aM.take k).foldl (qH g w (λx a s ai=>zY g w C f x a s ai) a s ai) ((x1,tr1),true)).2=true/\C.fj (k0+1+k*(2*zS f)) ((g.aM.take k).foldl (qH g w (λx a s ai=>zY g w C f x a s ai) a s ai) ((x1,tr1),true)).1.1/\∀ b∈((g.aM.take k).foldl (qH g w (λx a s ai=>zY g w C f x a s ai) a s ai) ((x1,tr1),true)).1.2,ym b) (λk=>g.aM.length-k) 0 ⟨by simp,rfl,by simpa using Fm,Fn⟩ ?_ ?_
 .simp+decide[zB,int,aa,u32,zj,aj.d,zh,zm,M,O]
  exact⟨Gc.vf,by omega,⟨by omega,Gc.aJ (nJ _)⟩,by omega,vK Gc rfl⟩
 intro k ⟨Fx,Hb,Hc,Hd⟩
 have G:=zkl (qH g w (λx a s ai=>zY g w C f x a s ai) a s ai) ((x1,tr1),true) g.aM k
 have Hi:=zkm (wk:=(λx a s ai=>zY g w C f x a s ai)) (g:=g) (w:=w) (a:=a) (s:=s) (ai:=ai) g.aM ((x1,tr1),true) (k+1)
 by_cases N:k<g.aM.length
 case neg=>
  have Fc:k=g.aM.length:=by omega
  have P:¬(k:Int)<(g.aM.length:Int):=by omega
  have Gd:g.aM.take k=g.aM:=by rw[Fc,nH]
  rw[Gd] at Hb ⊢;have H:=C.ok (g.aM.foldl (qH g w (λx a s ai=>zY g w C f x a s ai) a s ai) ((x1,tr1),true)).1.1
  have Fr:¬g.aM.length<g.aM.length:=by omega
  subst Fc;refine cy ?_
  simp+decide[zB,int,aa,u32,zj,aj.d,zh,zm,M,O];exact⟨Hb,H.vf,by omega,⟨by omega,H.aJ (nJ _)⟩,by omega,vK H rfl⟩
 have G:=G N
 have P:=bG N
 have H:=C.ok ((g.aM.take k).foldl (qH g w (λx a s ai=>zY g w C f x a s ai) a s ai) ((x1,tr1),true)).1.1
 generalize (g.aM.take k).foldl (qH g w (λx a s ai=>zY g w C f x a s ai) a s ai) ((x1,tr1),true)=z at Hb Hc Hd H G
 obtain⟨⟨zx,ztr⟩,zb⟩:=z
 simp only at Hb Hc Hd H
 subst Hb
 have he:g.aM[k]∈g.aM:=nF N
 obtain⟨e,ee,ee1⟩:=bN N
 rw[ee] at he G
 have Hp:∀ y1,qH g w (λx a s ai=>zY g w C f x a s ai) a s ai (y1,true) e=if yw g.bM.aw s e.cU=0 then (y1,true) else ch g w (λx a s ai=>zY g w C f x a s ai) e a (yw g.bM.aw s e.cU) ai y1 e.aK.length:=λy1=>by
  unfold qH;simp only[rQ,oU]
 rw[Hp] at G
 refine jb mixed 2 {n:=79,next:=C.n,af:=[(0,.bp 0 0),(1,.d (zh a)),(2,.d (u32 s)),(3,.d (aa ai)),(56,.d (zm g.aM)),(57,.d (int g.aM.length)),(58,.d (int k))],own:=zB g w ztr (.fn C.dU C.aJ) (C.aC zx),ai:=C.n,aA:=C.mv} rfl ?_ ?_
 .simp+decide[yo,qL,zB,int,aa,u32,zj,aj.d,zh,zm,M,O,P]
  exact⟨H.vf,by omega,⟨by omega,H.aJ (nJ _)⟩,by omega,vK H rfl⟩
 simp only[yK]
 refine XB (ZH ?_) mixed
 refine cy ?_
 simp+decide[zB,int,aa,u32,zj,aj.d,zh,zm,aP.row,M,O,N,P,ee,ee1,aB]
 have Hs:=zg7 g w ztr C.n (.fn C.dU C.aJ) (C.aC zx) H hg s hs e.cU
 refine Dp (n:=C.n) (s:=.d (u32 (yw g.bM.aw s e.cU))) (aJ:=[]) (aR:=zB g w ztr (.fn C.dU C.aJ) (C.aC zx)) (own':=zB g w ztr (.fn C.dU C.aJ) (C.aC zx)) (by rfl) (by simp[ah.a_,ah.lo,L]) (by simp) (Yc H) ?_ (wU H) trivial ?_ ?_
 .intro i o hm
  obtain⟨l1,l2⟩:=wU H i o hm;refine⟨l1,l2,?_⟩
  change zc ((C.n,_)::zB g w ztr (.fn C.dU C.aJ) (C.aC zx)) i=some o
  simp only[zc];rw[ge (by omega)]
  exact X7 H i o hm
 .simpa[zh,aa,int,u32] using Hs
 have Hx:∀ bJ:List (Nat×am),zc (C.aC zx++bJ) C.n=zc bJ C.n:=λbJ=>Dq H (nJ _)
 have S:¬0=C.n:=by omega
 have W:¬1=C.n:=by omega
 by_cases hz:yw g.bM.aw s e.cU=0
 .rw[gt hz] at G
  simp+decide[xr,wT H,L,Q,zB,M,O,S,W,Hx,zj,aj.d,int,aa,u32,zh,zm,aP.row,hz,aB];have Go:C.fj (k0+1+(k+1)*(2*zS f)) zx:=by
   have:=Zm C Hc (2*zS f)
   rwa [oR,rF,<-pP]
  have Gr:=hg.dQ.cW;refine⟨by omega,k+1,⟨N,by rw[G],by rw[G];exact Go,by rw[G];exact Hd⟩,by omega,?_⟩
  rw[G];exact⟨H.vf,by omega,H.aJ (nJ _),rfl,VY H (nJ _) (nJ _) rfl⟩
 rw[ge hz] at G
 simp+decide[xr,wT H,L,Q,zB,M,O,S,W,Hx,zj,aj.d,int,aa,u32,zh,zm,aP.row,hz,aB]
 have Fy:(k+1)*(2*zS f)<=5*(2*zS f):=oY _ (by have:=hg.dQ.cW;omega)
 have Fs:(k+1)*(2*zS f)=k*(2*zS f)+2*zS f:=by rw[oR,rF]
 have Fd:yw g.bM.aw s e.cU<8:=by
  have Y:=hg.j3.ok.1;exact Gf (λq hq=>⟨⟨(Y q hq).1.1,by have:=(Y q hq).1.2;omega⟩,(Y q hq).2.1,by have:=(Y q hq).2.2;omega⟩) s e.cU
 have V:=zkj g hg hc w hw C f hW e he (k0+1+k*(2*zS f)) zx ztr a (yw g.bM.aw s e.cU) ai Hc (by omega) Hd hl Fd hb H1
 have J:=Nc hg hw hW he (b0:=true) (a:=a) (s:=s) Hc (by omega) Hd hl Fd H1
 rw[Hp,ge hz] at J
 generalize ch g w (λx a s ai=>zY g w C f x a s ai) e a (yw g.bM.aw s e.cU) ai (zx,ztr) e.aK.length=z2 at V J G
 obtain⟨⟨z2x,z2t⟩,z2b⟩:=z2
 simp only at V J
 have I:=C.ok z2x
 have F0:∀ bJ:List (Nat×am),zc (C.aC z2x++bJ) C.n=zc bJ C.n:=λbJ=>Dq I (nJ _)
 refine K2 C.hJ (n:=C.n) (s:=.d (.bool z2b)) (aJ:=[]) (aR:=zB g w ztr (.fn C.dU C.aJ) (C.aC zx)) (own':=zB g w z2t (.fn C.dU C.aJ) (C.aC z2x)) (by rfl) (by simp[ah.a_,ah.lo,L]) (by simp) (Yc H) ?_ (wU I) trivial ?_ (by simp[kR,zQ,H2,G2,F1]) (xW.h_ L (xW.h_ Q (xW.fC (xW.aC H) (xW.cons (by simp[wE,qX,zQ]) xW.nil)))) ?_
 .intro i o hm
  obtain⟨l1,l2⟩:=wU H i o hm;refine⟨l1,l2,?_⟩
  change zc (zB g w ztr (.fn C.dU C.aJ) (C.aC zx)++[(C.n,_)]) i=some o
  exact Nj (X7 H i o hm)
 .simpa[zh,aa,int,u32,aP.row] using V
 cases z2b with
 |false=>
  have Fi:=Hi (by rw[G])
  rw[G] at Fi;simp+decide[xr,wT H,Nk H,L,Q,zB,zj,aj.d,int,aa,u32,zm,Fi];exact⟨I.vf,I.aJ (nJ _),VY I (nJ _) (nJ _) rfl⟩
 |true=>
  simp+decide[xr,wT H,Nk H,L,Q,zB,zj,aj.d,int,aa,u32,zh,zm,aP.row,M,O,S,W,F0,aB];have Go:C.fj (k0+1+(k+1)*(2*zS f)) z2x:=by
   have:=J.1
   rwa [Fs,<-pP]
  have Gr:=hg.dQ.cW;refine⟨by omega,k+1,⟨N,by rw[G],by rw[G];exact Go,by rw[G];exact J.2⟩,by omega,?_⟩
  rw[G];exact⟨I.vf,by omega,I.aJ (nJ _),rfl,VY I (nJ _) (nJ _) rfl⟩
end Go.V
namespace Go.V
open Go Go.Proofs Tryz
theorem Nl(g:aj)(G:aH g)(F:bC g)(w:List Int)(E:w.length<=24){σ:Type}(C:iH prog g w σ):∀ f,fN g w C f
 |0=>zg9 g G F w E C
 |f+1=>by
  have ih:=Nl g G F w E C f;exact {call:=λk x tr a s ai K J L M hs O H=>zea g G F w E C f ih k x tr a s ai K J L M hs O H,inv:=λk x tr a s ai K J L M _ O H=>zkk G E ih k x tr a s ai K J L M O H}
section
variable {σ:Type}
def sF(F:σ->List aG->List Int->σ×Bool):σ×Bool->List (List aG×List Int)->σ×Bool
 |z,[]=>z
 |z,(p,b)::r=>if z.2=false then z else sF F (F z.1 p b) r
theorem K4{F:σ->List aG->List Int->σ×Bool}{z:σ×Bool}(h:z.2=false):∀ l,sF F z l=z
 | []=>rfl
 |(p,b)::r=>by unfold sF;rw[gt h]
theorem K5{F:σ->List aG->List Int->σ×Bool}(z:σ×Bool)(p:List aG)(b:List Int)(r:List (List aG×List Int)):sF F z ((p,b)::r)=if z.2=false then z else sF F (F z.1 p b) r:=rfl
theorem Dt{F:σ->List aG->List Int->σ×Bool}:∀ (z:σ×Bool) (l r:List (List aG×List Int)),sF F z (l++r)=sF F (sF F z l) r
 |z,[],r=>rfl
 |z,(p,b)::l,r=>by
  rw[nV,K5,K5];by_cases h:z.2=false
  .rw[gt h,gt h]
   exact(K4 h r).symm
  .rw[ge h,ge h]
   exact Dt _ l r
theorem Du{F:σ->List aG->List Int->σ×Bool}{α β:Type}{pr:β->σ×Bool}{G:β->α->β}{T:α->List (List aG×List Int)}:∀ (l:List α) (y:β),(∀ y,∀ e∈l,pr (G y e)=sF F (pr y) (T e))->pr (l.foldl G y)=sF F (pr y) (l.flatMap T)
 | [],y,_=>rfl
 |e::l,y,h=>by
  rw[oK,pz,Dt,<-h y e (nL ..)];exact Du l _ λy e H=>h y e (nG _ H)
variable {P:Program} (g:aj) (w:List Int) (C:iH P g w σ)
def jm(z:vA σ):σ×Bool:=(z.1.1,z.2)
def VZ(a:List aG)(s:Nat)(ai:List Int):List (List aG×List Int):=
 if a≠[]/\s &&& yg g.bM.aS≠0/\w.length<=ai.length/\j4 g w ai=true then [(a,ai)] else []
theorem Nn(x:σ×List (List Int))(a:List aG)(s:Nat)(ai:List Int):jm (vp g w C x a s ai)=sF C.F (x.1,true) (VZ g w a s ai):=by
 unfold vp VZ
 by_cases h:a≠[]/\s &&& yg g.bM.aS≠0/\w.length<=ai.length
 .rw[gt h]
  by_cases H:j4 g w ai=true
  .rw[gt H,gt ⟨h.1,h.2.1,h.2.2,H⟩];simp[sF,jm]
  .rw[ge H,ge (λh'=>H h'.2.2.2)];rfl
 .rw[ge h,ge (λh'=>h ⟨h'.1,h'.2.1,h'.2.2.1⟩)];rfl
theorem Np:∀ (f:Nat) (x:σ×List (List Int)) (a:List aG) (s:Nat) (ai:List Int),jm (zY g w C f x a s ai)=sF C.F (x.1,true) (VZ g w a s ai++fM g w f a s ai)
 |0,x,a,s,ai=>by
  unfold zY fM;rw[oq,Nn]
 |f+1,x,a,s,ai=>by
  rw[Dt,<-Nn g w C];unfold zY;by_cases h:(vp g w C x a s ai).2=false
  .rw[gt h,K4 (z:=jm (vp g w C x a s ai)) h]
  rw[ge h];have K:(vp g w C x a s ai).2=true:=by simpa using h
  have e0:jm (vp g w C x a s ai)=jm (((vp g w C x a s ai).1,true):vA σ):=by unfold jm;rw[K]
  rw[e0];unfold fM;refine Du (F:=C.F) (pr:=jm) g.aM _ λy e he=>?_
  unfold qH;by_cases J:y.2=false
  .rw[gt J]
   exact(K4 (z:=jm y) J _).symm
  rw[ge J];by_cases L:yw g.bM.aw s e.cU=0
  .rw[gt L,ge (λh=>h L)];rfl
  rw[ge L,gt L];have G:y.2=true:=by simpa using J
  have e1:jm y=jm ((y.1,true):vA σ):=by unfold jm;rw[G]
  rw[e1];unfold ch;refine Du (F:=C.F) (pr:=jm) _ _ λz bf ha=>?_
  unfold Yd;by_cases H:z.2=false
  .rw[gt H]
   exact(K4 (z:=jm z) H _).symm
  rw[ge H];split
  .rfl
  have E:z.2=true:=by simpa using H
  have e2:jm z=(z.1.1,true):=by unfold jm;rw[E]
  rw[e2,Np f];unfold VZ;have:(a++[(⟨e.id,(bf:Int),0⟩:aG)])≠[]:=by simp
  simp only[this,Cz,not_false_eq_true,tT]
end
def yY(g:aj)(w:List Int):List (List aG):=if w.length=0\/24<w.length then [] else qn g w 4 []
theorem zeb{g:aj}(H:aH g){w:List Int}(G:¬w.length=0)(E:w.length<=24){σ:Type}{P:Program}(C:iH P g w σ)(x:σ):
  jm (zY g w C 4 (x,[]) [] 1 [])=sF C.F (x,true) ((yY g w).map λb=>(b,zM g.aM b)):=by
 rw[Np]
 have h:=MS H E 4 [] rfl (λp K=>by cases K)
 have e1:yr g.bM.aw (yu g.aM [])=1:=rfl
 have e2:zM g.aM []=[]:=rfl
 rw[e1,e2] at h
 unfold yY
 rw[ge (by omega),<-h]
 unfold VZ
 rw[ge (λh=>h.1 rfl),oP]
end Go.V
namespace Go.V
open Go Go.Proofs Tryz
theorem Nq{w:World}{E:Nat->Prop}{β:Nat->Value}{j:Nat}(hj:β j = .slice none 0 0):∀ {l:List ah} {i:Nat} {vs:List Value},l[i]?=some .aW->zi w E β l vs->zi w E β (l.set i (.ar j)) vs
 | [],i,vs,hi,_=>by simp at hi
 |s::r,0,vs,hi,h=>by
  simp at hi;subst hi
  simp only[zi,tc] at h ⊢;obtain⟨v,vs',rfl,H,G⟩:=h;refine⟨v,vs',rfl,?_,G⟩
  simp only[Sm] at H ⊢;rw[H,hj]
 |s::r,i+1,vs,hi,h=>by
  simp only[zi,sk] at h ⊢;obtain⟨v,vs',rfl,H,G⟩:=h;exact⟨v,vs',rfl,H,Nq hj (by simpa using hi) G⟩
theorem Nr{m:Nat}{s:ah}(hs:ah.lo m s):∀ {l:List ah} {i:Nat},ah.a_ m l->ah.a_ m (l.set i s)
 | [],i,h=>by simp
 |x::r,0,h=>by simp only[tc,ah.a_] at h ⊢;exact⟨hs,h.2⟩
 |x::r,i+1,h=>by simp only[sk,ah.a_] at h ⊢;exact⟨h.1,Nr hs h.2⟩
theorem FY{P:Program}{st:St}{Q:DE->St->Prop}{c:Code}(id i e sz:Nat){T:Nat}{l:List ah}(K:st.ay id=some (.box T l))(hi:l[i]?=some .aW)
  (h:aT P c Q ((st.new (.aQ e sz [])).set id (.box T (l.set i (.ar st.next))))):aT P c Q st:=by
 intro X w0 β a w J
 have H:=J.Xn e sz
 have E:=(J.dm K).1
 have G:(st.new (.aQ e sz [])).ay id=some (.box T l):=by
  show zc ((st.next,_)::st.own) id=_
  simp only[zc];rw[ge (by omega)]
  exact K
 obtain⟨_,F,b,vs,L,M,O,V,Y⟩:=H.dm G
 refine h X w0 _ a w (H.db G (b:=b) (w':=w) (by simp only at L;rw[L];rfl) M (λ_ _=>rfl) rfl rfl rfl rfl (jv.refl _) ?_ ⟨b,vs,L,M,O,Nq (by simp) hi V,Y⟩)
 exact Nr (by simp[ah.lo,St.new]) F
theorem aU.args{P:Program}{f:Nat}{args args':List ah}{own:List (Nat×am)}{n:Nat}{s:ah}{nx:Nat}{own':List (Nat×am)}{mv:List Nat}
  (H:∀ (w:World) (E:Nat->Prop) (β:Nat->Value) (vs:List Value),zi w E β args' vs->zi w E β args vs) (h:aU P f args own n s nx own' mv):aU P f args' own n s nx own' mv:=
 ⟨h.1,λX w0 β w vs hβ G hs=>h.2 X w0 β w vs hβ G (H _ _ _ _ hs)⟩
theorem Dv{w:World}{E:Nat->Prop}{β:Nat->Value}{v:Value}(h:Sm w E β .aW v):Sm w E β (.d (.sl [])) v:=by
 simp only[Sm] at h ⊢
 rw[h]
 simp only[R];exact⟨none,0,rfl,by simp,nU _,λ_=>rfl,λh=>absurd rfl h⟩
theorem lm{P:Program}{f:Nat}{a s:ah}{own:List (Nat×am)}{n:Nat}{r:ah}{nx:Nat}{own':List (Nat×am)}{mv:List Nat}
  (h:aU P f [a,.d (zh []),s,.d (aa [])] own n r nx own' mv):aU P f [a,.aW,s,.aW] own n r nx own' mv:=by
 refine h.args λw E β vs hs=>?_
 simp only[zi] at hs ⊢
 obtain⟨v1,_,rfl,H,v2,_,rfl,G,v3,_,rfl,F,v4,_,rfl,K,rfl⟩:=hs
 exact⟨v1,_,rfl,H,v2,_,rfl,Dv G,v3,_,rfl,F,v4,_,rfl,Dv K,rfl⟩
def jR:List Int->Int
 | []=>0
 |x::r=>if x=0 then jR r else x
theorem zon{l:List Int}{k:Nat}(h:k<l.length):jR (l.drop k)=if l[k]=0 then jR (l.drop (k+1)) else l[k]:=by
 rw[nY h];rfl
theorem GM(l:List Int)(F:l.length<2^40):aq prog 166 [aa l] (int (jR l)):=by
 refine aF func166 ?_
 simp+decide[f166,int,aa]
 refine cl (λk:Nat=>{n:=18,next:=0,af:=[(3,.d (int 0)),(6,.d (aa l)),(7,.d (int l.length)),(8,.d (int k))],own:=[]})
  (λk=>k<=l.length/\jR (l.drop k)=jR l) (λk=>l.length-k) 0 (by simp) (by simp+decide[int,aa]) ?_
 intro k ⟨E,K⟩
 by_cases H:k<l.length
 case neg=>
  obtain rfl:k=l.length:=by omega
  rw[pL] at K;simp+decide[int,aa,<-K,jR]
 have G:=bG H
 rw[zon H] at K
 obtain⟨x,ex,e1⟩:=bN H
 rw[ex] at K
 by_cases J:x=0
 .rw[gt J] at K
  simp+decide[int,aa,H,G,e1,ex,J,aB];exact⟨by omega,k+1,⟨H,K⟩,by omega,by omega⟩
 .rw[ge J] at K
  simp+decide[int,aa,H,G,e1,ex,J,aB,<-K]
def uR(a b:aG):Int:=jR [qh a.entry b.entry,qh a.bf b.bf,qh a.bu b.bu]
theorem X8{a b:Int}:qh a b=0↔a=b:=by unfold qh;split;omega;split <;> omega
theorem Dw{a b:Int}:qh a b<0↔a<b:=by unfold qh;split;omega;split <;> omega
theorem Ns{a b:aG}:uR a b=0↔a=b:=by
 unfold uR jR jR jR jR
 constructor
 .intro h
  split at h
  .rename_i H
   split at h
   .rename_i G
    split at h
    .rename_i h3
     obtain⟨a1,a2,a3⟩:=a;obtain⟨b1,b2,b3⟩:=b;rw[X8] at H G h3;simp only at H G h3
     rw[H,G,h3]
    .contradiction
   .contradiction
  .contradiction
 .intro h
  subst h;simp[qh]
theorem zoo{a b:aG}:decide (uR a b<0)=qp a b:=by
 unfold uR jR jR jR jR qp
 by_cases H:a.entry=b.entry
 .rw[gt (X8.2 H),gt H]
  by_cases G:a.bf=b.bf
  .rw[gt (X8.2 G),gt G]
   by_cases F:a.bu=b.bu
   .rw[gt (X8.2 F)];simp[F]
   .rw[ge (λh=>F (X8.1 h))];simp[Dw]
  .rw[ge (λh=>G (X8.1 h)),ge G];simp[Dw]
 .rw[ge (λh=>H (X8.1 h)),ge H];simp[Dw]
theorem zha(a b:aG):aq prog 286 [.agg a.row,.agg b.row] (int (uR a b)):=by
 have H:=ZP a.entry b.entry
 have G:=ZP a.bf b.bf
 have F:=ZP a.bu b.bu
 have E:=GM [qh a.entry b.entry,qh a.bf b.bf,qh a.bu b.bu] (by simp)
 refine aF func286 ?_
 simp+decide[f286,int,aG.row]
 refine bw H ?_
 simp+decide[int,aG.row]
 refine bw G ?_
 simp+decide[int,aG.row]
 refine bw F ?_
 simp+decide[int,aG.row]
 refine bw E ?_
 simp+decide[int,aG.row,uR]
def uS:List aG->List aG->Int
 | [],[]=>0
 | [],_::_=>-1
 |_::_,[]=>1
 |a::l,b::m=>if uR a b=0 then uS l m else uR a b
theorem Nu:∀ {a b:List aG},decide (uS a b<0)=zP a b
 | [],[]=>rfl
 | [],_::_=>rfl
 |_::_,[]=>rfl
 |a::l,b::m=>by
  unfold uS zP;by_cases h:a=b
  .rw[gt (Ns.2 h),gt h];exact Nu
  .rw[ge (λH=>h (Ns.1 H)),ge h];exact zoo
theorem zkn{a b:List aG}{k:Nat}(h:k<a.length)(H:k<b.length):uS (a.drop k) (b.drop k)=if uR a[k] b[k]=0 then uS (a.drop (k+1)) (b.drop (k+1)) else uR a[k] b[k]:=by
 rw[nY h,nY H];rfl
theorem zec(a b:List aG)(M:a.length<2^40)(O:b.length<2^40):
  aq prog 285 [zh a,zh b,.fn 286 []] (int (uS a b)):=by
 refine aF func285 ?_
 simp+decide[f285,int,zh]
 refine cl (λk:Nat=>{n:=39,next:=0,af:=[(0,.d (zh a)),(1,.d (zh b)),(2,.d (.fn 286 [])),(11,.d (zh a)),(12,.d (int a.length)),(13,.d (int k))],own:=[]})
  (λk=>k<=a.length/\k<=b.length/\uS (a.drop k) (b.drop k)=uS a b) (λk=>a.length-k) 0 (by simp) (by simp+decide[int,zh]) ?_
 intro k ⟨Q,L,T⟩
 by_cases H:k<a.length
 case neg=>
  obtain rfl:k=a.length:=by omega
  rw[pL] at T;by_cases J:a.length<b.length
  .have K:(a.length:Int)<b.length:=by omega
   rw[nY J] at T;simp+decide[int,zh,K,<-T,uS]
  .have K:¬(a.length:Int)<b.length:=by omega
   rw[show a.length=b.length by omega,pL] at T
   simp+decide[int,zh,K,<-T,uS]
 have F:=bG H
 obtain⟨x,ex,e1⟩:=bN H
 by_cases E:k<b.length
 case neg=>
  have G:(b.length:Int)<=k:=by omega
  have:b.drop k=[]:=pJ (by omega)
  rw[this,nY H] at T;simp+decide[int,zh,aG.row,H,F,e1,ex,G,<-T,uS,aB]
 have G:¬(b.length:Int)<=k:=by omega
 obtain⟨y,ey,e2⟩:=bN E
 rw[zkn H E,ex,ey] at T
 simp+decide[int,zh,aG.row,H,F,E,e1,ex,e2,ey,G,aB]
 refine zg (zha x y) ?_
 by_cases V:uR x y=0
 .rw[gt V] at T
  simp+decide[int,zh,aG.row,V,aB];exact⟨by omega,k+1,⟨H,E,T⟩,by omega,by omega⟩
 .rw[ge V] at T
  simp+decide[int,zh,aG.row,V,aB,<-T]
theorem zop(a b:List aG)(H:a.length<2^40)(G:b.length<2^40):aq prog 270 [zr a,zr b] (.bool (zP a b)):=by
 refine aF func270 ?_
 simp+decide[f270,zr,zh]
 refine zg (zec a b H G) ?_
 simp+decide[int]
 exact Nu
theorem zoq(inv:List bD)(s:Int):aq prog 283 [int s,.ptr [zL inv]] (.bool (!xd inv s)):=by
 refine aF func283 ?_
 simp+decide[f283,int]
 refine zg (Ep inv s) ?_
 simp+decide[int]
def vB(inv:List bD)(w:List Int):Int:=match w.findIdx? (λs=>!xd inv s) with
 |some k=>k
 |none=>-1
theorem zko(inv:List bD)(w:List Int)(F:w.length<2^40):aq prog 292 [aa w,.fn 283 [.ptr [zL inv]]] (int (vB inv w)):=by
 refine aF func292 ?_
 simp+decide[f292,aa]
 refine cl (λk:Nat=>{n:=19,next:=0,af:=[(0,.d (aa w)),(1,.d (.fn 283 [.ptr [zL inv]])),(6,.d (aa w)),(7,.d (.int .i64 w.length)),(8,.d (.int .i64 k))],own:=[]})
  (λk=>k<=w.length/\∀ e∈w.take k,xd inv e=true) (λk=>w.length-k) 0 (by simp) (by simp[aa]) ?_
 intro k ⟨E,K⟩
 by_cases H:k<w.length
 .have G:=bG H
  obtain⟨e,ee,e1⟩:=bN H;simp+decide[aa,int,e1,ee,H,G,aB];refine zg (zoq inv e) ?_
  cases J:xd inv e with
  |false=>
   have:w.findIdx? (λs=>!xd inv s)=some k:=by
    rw[oN];refine⟨H,by rw[ee,J];rfl,λj hj=>?_⟩
    have:=K w[j] (by rw[oG];exact⟨j,by omega,rfl⟩)
    rw[this];decide
   simp+decide[aa,int,J,aB,vB,this]
  |true=>
   simp+decide[aa,int,J,aB];refine⟨by omega,k+1,⟨H,?_⟩,by omega,by omega⟩
   intro x L;rw[nX H] at L;rcases nM.1 L with h | h
   .exact K x h
   .rw[nQ] at h;rw[h,ee];exact J
 .obtain rfl:k=w.length:=by omega
  have:w.findIdx? (λs=>!xd inv s)=none:=by
   rw[pj];intro x L;rw[K x (by simpa using L)];rfl
  simp+decide[aa,int,vB,this]
theorem zrk(inv:List bD)(w:List Int)(E:w.length<2^40):aq prog 268 [.agg [zL inv],aa w] (int (vy inv w)):=by
 have K:=zko inv w E
 refine aF func268 ?_
 obtain⟨R,J⟩:∃ R,vy inv w=R:=⟨_,rfl⟩
 rw[J]
 unfold vy at J
 have L:aq prog 282 [aa w,.fn 283 [.ptr [zL inv]]] (.bool (decide (0<=vB inv w))):=by
  refine aF func282 ?_
  simp+decide[f282,aa];refine zg K ?_
  simp+decide[int]
 by_cases M:w.length=0
 .rw[gt M] at J
  subst J;have G:(w.length:Int)=0:=by omega
  simp+decide[f268,int,aa,M,G];done
 rw[ge M] at J
 have G:¬(w.length:Int)=0:=by omega
 by_cases O:24<w.length
 .rw[gt O] at J
  subst J;have F:(24:Int)<w.length:=by omega
  simp+decide[f268,int,aa,M,G,O,F];done
 rw[ge O] at J
 have F:¬(24:Int)<w.length:=by omega
 simp+decide[f268,int,aa,M,G,O,F]
 refine zg L ?_
 by_cases H:(w.all λx=>xd inv x)=true
 .rw[gt H] at J
  have Q:vB inv w = -1:=by
   unfold vB;have:w.findIdx? (λs=>!xd inv s)=none:=by
    rw[pj];intro x T;rw[oo.1 H x T];rfl
   rw[this]
  simp+decide[int,Q,<-J]
 .rw[ge H] at J
  have Q:0<=vB inv w:=by
   unfold vB;cases h:w.findIdx? (λs=>!xd inv s) with
   |none=>
    rw[pj] at h;exact absurd (oo.2 λx T=>by simpa using h x T) H
   |some k=>simp
  simp+decide[int,Q,<-J]
def qq{α:Type}(lt:α->Bool)(l:List α):Nat->Nat
 |0=>0
 |i+1=>match l[i]? with
  |some y=>if lt y=true then qq lt l i else i+1
  |none=>i+1
theorem Dx{α:Type}(lt:α->Bool)(l:List α):∀ i,qq lt l i<=i
 |0=>nJ _
 |i+1=>by
  unfold qq;split
  .split
   .exact wD (Dx lt l i)
   .exact nJ _
  .exact nJ _
def dE{α:Type}(lt:α->Bool)(x:α)(l:List α):List α:=l.take (qq lt l l.length)++x::l.drop (qq lt l l.length)
def Xa(R:List (List D))(nr:List D)(p L:Nat):List (List D):=
 (R++[nr]).take (p+1)++(((((R++[nr]).drop p).take (L+1-p)).take (L-p))++(R++[nr]).drop (p+1+min (L-p) (L+1-p)))
theorem ztj(R:List (List D))(nr:List D){p L:Nat}(H:R.length=L)(G:p<L):Xa R nr p L=(R++[nr]).take (p+1)++R.drop p:=by
 subst H
 unfold Xa
 have F:(R++[nr]).drop (p+1+min (R.length-p) (R.length+1-p))=[]:=by
  refine pJ ?_
  simp;omega
 have E:((R++[nr]).drop p).take (R.length-p)=R.drop p:=by
  rw[sg (by omega),o_ (by simp),oa (by simp)]
 rw[F,oq,Bx,show min (R.length-p) (R.length+1-p)=R.length-p by omega,E]
theorem Nv{R:List (List D)}(E:∀ r∈R,r.length=1){nr:List D}(K:nr.length=1)(x:D){p L:Nat}(J:R.length=L)(M:p<L):
  (∀ r∈((R++[nr]).drop p).take (L+1-p),r.length=1)/\1<=((Xa R nr p L)[p]?.getD []).length /\
   (Xa R nr p L).set p (x::((Xa R nr p L)[p]?.getD []).tail)=R.take p++[x]::R.drop p:=by
 have H:∀ r∈R++[nr],r.length=1:=by
  intro r h;rcases nM.1 h with h | h
  .exact E r h
  .rw[nQ.1 h];exact K
 refine⟨λr h=>H r (oH (oh h)),?_⟩
 rw[ztj R nr J M]
 have O:((R++[nr]).take (p+1)).length=p+1:=by rw[nR];simp;omega
 have F:p<((R++[nr]).take (p+1)++R.drop p).length:=by rw[nO];omega
 have Q:((R++[nr]).take (p+1)++R.drop p)[p]?.getD []=R[p]:=by
  rw[pl (by omega),og,gt (by omega),pl (by omega),ac (by omega)];rfl
 rw[Q]
 have G:=E R[p] (nF (by omega))
 refine⟨by omega,?_⟩
 have T:(R[p]).tail=[]:=by
  cases h:R[p] with
  |nil=>rfl
  |cons a l=>rw[h] at G;simp at G;exact G
 rw[T,List.set_append_left _ _ (by omega),o_ (by omega),nX (by omega),A_ _ _ (by simp;omega)]
 simp
 rw[show p-min p R.length=0 by omega];rfl
noncomputable instance mX(k:ByteArray)(l:List ByteArray):Decidable (k∈l):=Classical.propDecidable _
abbrev K6:=List ByteArray×List (List Int)
noncomputable def uT(x:K6)(_:List aG)(ai:List Int):K6×Bool:=(if dw ai∈x.1 then x else (x.1++[dw ai],dE (λo=>W7 ai o) ai x.2),true)
theorem Ye{α:Type}{lt:α->Bool}{x y:α}{l:List α}:y∈dE lt x l↔y=x\/y∈l:=by
 unfold dE
 rw[nM,nE]
 constructor
 .rintro(h | h | h)
  .exact .inr (oh h)
  .exact .inl h
  .exact .inr (oH h)
 .rintro(h | h)
  .exact .inr (.inl h)
  .rw[<-oT (qq lt l l.length) l] at h
   rcases nM.1 h with h | h
   .exact .inl h
   .exact .inr (.inr h)
theorem J0{α:Type}{lt:α->Bool}{x:α}{l:List α}:(dE lt x l).length=l.length+1:=by
 have:=Dx lt l l.length
 unfold dE
 rw[nO,nR,nP,oO]
 omega
noncomputable def K7(g:aj)(w:List Int):List (List Int):=(sF uT (([],[]),true) ((yY g w).map λb=>(b,zM g.aM b))).1.2
end Go.V

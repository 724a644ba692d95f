/- A program logic of my own over the kit: part S3. It needs no conditions. -/
import Derived.Test.YtknekjalbninmaaGreatW3
import Derived.Shelf.Strings.Builder1
set_option linter.all false
set_option maxHeartbeats 32000000
namespace Go.V
variable [Dr] [Ov]
open Go.RowKit Go.Proofs Go.Shelf
section
variable {P:Program} {ρ:Ren}
theorem zly{f T:Nat}(L:aN P f=true)(M:∀ (b:Nat) (w:World),w.cell? ⟨b,0,none⟩=some (.pointer none)->w.shape? b=some (T,2)->w.frozen? ⟨b,0,none⟩=false ->
   Calls P f #[.pointer (some ⟨b,0,none⟩)] w λe w'=>e = .returned (.tuple #[])/\w'=w.setCell ⟨b,0,none⟩ (.pointer (some ⟨b,0,none⟩))) :
  aU P f [.bp 0 0] [(0,.box T [.d (.val (.pointer none)),.aW])] 1 (.d (.bE [])) 1 [(0,.box T [.bp 0 0,.aW])] []:=by
 refine⟨L,λX w0 β w vs hβ O hs=>?_⟩
 simp only[zi] at hs
 obtain⟨v,vs',rfl,Q,rfl⟩:=hs
 simp only[Sm] at Q
 obtain⟨b,V,rfl⟩:=Q
 obtain⟨_,J,b',us,F,H,Y,E,Z⟩:=O.dm (id:=0) (o:=.box T [.d (.val (.pointer none)),.aW]) rfl
 rw[V] at F;cases F
 simp only[zi,Sm,R] at E
 obtain⟨_,_,rfl,rfl,_,_,rfl,rfl,rfl⟩:=E
 have c0:w.cell? ⟨b,0,none⟩=some (.pointer none):=by rw[Lib.cell_of_heap Y];rfl
 refine(M b w c0 (by simp[World.shape?,Y]) (Lib.frozen_of_heap Y 0)).mono ?_
 rintro e w' ⟨rfl,rfl⟩
 have G:(w.setCell ⟨b,0,none⟩ (.pointer (some ⟨b,0,none⟩))).heap[b]?=some (.cells #[.pointer (some ⟨b,0,none⟩),.slice none 0 0] T (0,0)):=by
  simp[World.setCell,rR,Y]
 have K:ax X w0 {(yW [(0,.box T [.d (.val (.pointer none)),.aW])] 1 1 []) with own:=zT 0 (.box T [.bp 0 0,.aW]) [(0,.box T [.d (.val (.pointer none)),.aW])]} β vv (w.setCell ⟨b,0,none⟩ (.pointer (some ⟨b,0,none⟩))):=by
  refine O.db (b:=b) rfl (by rw[V];rfl) H (λc L=>Go.RowKit.Below.heap_setCell _ _ _ _ L) (by simp[World.setCell]) rfl rfl rfl (λ_=>by simp[World.setCell]) (by simp[am.lo,ah.a_,ah.lo,yW]) ?_
  exact⟨b,[.pointer (some ⟨b,0,none⟩),.slice none 0 0],V,H,G,by simp[zi,Sm,V],by simp[Value.oneCell']⟩
 exact⟨β,_,rfl,K,by simp[ah.lo],by simp[Sm,R,zI]⟩
theorem zpw{f T:Nat}(J:aN P f=true)(L:∀ (b:Nat) (w:World),w.cell? ⟨b,0,none⟩=some (.pointer (some ⟨b,0,none⟩)) ->
   Calls P f #[.pointer (some ⟨b,0,none⟩)] w λe w'=>e = .returned (.tuple #[])/\w'=w) (e sz:Nat) (rows:List (List D)) :
  aU P f [.bp 0 0] [(0,.box T [.bp 0 0,.ar 1]),(1,.aQ e sz rows)] 2 (.d (.bE [])) 2 [(0,.box T [.bp 0 0,.ar 1]),(1,.aQ e sz rows)] []:=by
 refine⟨J,λX w0 β w vs hβ M hs=>?_⟩
 simp only[zi] at hs
 obtain⟨v,vs',rfl,O,rfl⟩:=hs
 simp only[Sm] at O
 obtain⟨b,Q,rfl⟩:=O
 obtain⟨_,K,b',us,H,E,V,G,Y⟩:=M.dm (id:=0) (o:=.box T [.bp 0 0,.ar 1]) rfl
 rw[Q] at H;cases H
 simp only[zi,Sm] at G
 obtain⟨_,_,rfl,⟨b2,F,rfl⟩,_,_,rfl,rfl,rfl⟩:=G
 rw[Q] at F;cases F
 have c0:w.cell? ⟨b,0,none⟩=some (.pointer (some ⟨b,0,none⟩)):=by rw[Lib.cell_of_heap V];rfl
 refine(L b w c0).mono ?_
 rintro e w' ⟨rfl,rfl⟩
 exact⟨β,_,rfl,M,by simp[ah.lo],by simp[Sm,R,zI]⟩
set_option maxRecDepth 100000 in
theorem zr8(L:Lays.n169 P ρ)(X:Builder.Extra P ρ)(b g cap:Nat)(p:Value)(cur:Array Value)(l:List UInt8)(w:World)(G:w.heap[b]?=some (.cells #[p,.slice (some ⟨g,0,none⟩) l.length cap] (ρ.t 72) (0,0)))
  (T:w.heap[g]?=some (.cells cur (ρ.t 5) (0,0))) (V:l≠[]) (K:l.length<=cap) (F:cap<=maxLen) (J:cur.size=cap) (H:∀ (j:Nat) (x:UInt8),l[j]?=some x->w.drew.cell? ((⟨g,0,none⟩:Addr).add j)=some (.int .u8 x.toNat)) :
  Calls P (ρ.f 169) #[.pointer (some ⟨b,0,none⟩)] w λe w'=>e = .returned (.string ⟨l.toArray⟩)/\w'=w.drew.freeze ⟨g,0,none⟩ l.length:=by
 have M:l.length≠0:=by simpa using V
 have c1:w.drew.cell? ⟨b,1,none⟩=some (.slice (some ⟨g,0,none⟩) l.length cap):=by
  have:w.drew.heap[b]?=some (.cells #[p,.slice (some ⟨g,0,none⟩) l.length cap] (ρ.t 72) (0,0)):=G
  rw[Lib.cell_of_heap this];rfl
 have O:(Builtin.unsafeSliceData_ #[(ρ.t 37)] (ρ.t 127) #[.slice (some ⟨g,0,none⟩) l.length cap]).run P w.drew = .ok (.pointer (some ⟨g,0,none⟩)) w.drew:=
  Lib.run_unsafeSliceData_row _ _ _ _ _ _ (by omega)
 have Q:(Builtin.unsafeString_ #[(ρ.t 127),(ρ.t 3)] (ρ.t 9) #[.pointer (some ⟨g,0,none⟩),.int .i64 l.length]).run P w.drew = .ok (.string ⟨l.toArray⟩) (w.drew.freeze ⟨g,0,none⟩ l.length):=by
  exact Lib.run_unsafeString_row w.drew (ρ.t 127) (ρ.t 3) (ρ.t 9) (ρ.t 5) L.t127 X.cellsByte g cur.size (by have E:w.drew.heap[g]?=some (.cells cur (ρ.t 5) (0,0)):=T;simp[World.shape?,E]) l V (by omega) (by unfold maxLen at F;omega) H
 have mixed:=L.mixed
 have t72:=L.t72;have a72:=L.a72;have z72:=L.z72;have v72:=L.v72;have u72:=run_underlying L.t72
 have t70:=L.t70;have a70:=L.a70;have z70:=L.z70;have v70:=L.v70;have u70:=run_underlying L.t70
 have t37:=L.t37;have a37:=L.a37;have z37:=L.z37;have v37:=L.v37;have u37:=run_underlying L.t37
 have t127:=L.t127;have a127:=L.a127;have z127:=L.z127;have v127:=L.v127;have u127:=run_underlying L.t127
 have t3:=L.t3;have a3:=L.a3;have z3:=L.z3;have v3:=L.v3;have u3:=run_underlying L.t3
 have t9:=L.t9;have a9:=L.a9;have z9:=L.z9;have v9:=L.v9;have u9:=run_underlying L.t9
 have t5:=X.t5;have a5:=X.a5;have z5:=X.z5;have v5:=X.v5;have u5:=run_underlying X.t5
 go_enter L.f169,Body.n169_ntmps ρ
 go_wp2
 go_region_o
 all_goals (go_wp2;go_ret;exact⟨rfl,rfl⟩)
theorem Ri(w:World)(g n c:Nat)(h:c≠g):(w.freeze ⟨g,0,none⟩ n).heap[c]?=w.heap[c]?:=by
 unfold World.freeze
 split
 .rfl
 .simp only[rR]
  rw[ge (λe=>h e.symm)]
theorem ze6(w:World)(a:Addr)(n:Nat):(w.freeze a n).heap.size=w.heap.size:=by
 unfold World.freeze
 split <;> simp
theorem zcq(w:World)(a:Addr)(n:Nat):(w.freeze a n).drawn=w.drawn/\(w.freeze a n).os=w.os/\(w.freeze a n).tape=w.tape/\(w.freeze a n).output=w.output:=by
 unfold World.freeze
 split <;> exact⟨rfl,rfl,rfl,rfl⟩
theorem zh1(L:Lays.n169 P ρ)(X2:Builder.Extra P ρ)(hc:aN P (ρ.f 169)=true)(s:ByteArray)(M:s.size≠0):
  aU P (ρ.f 169) [.bp 0 0] [(0,.box (ρ.t 72) [.bp 0 0,.ar 1]),(1,.aQ (ρ.t 5) 1 (yJ s))] 2 (.d (.str s)) 2 [] []:=by
 refine⟨hc,λX w0 β w vs hβ hm hs=>?_⟩
 simp only[zi] at hs
 obtain⟨v,vs',rfl,hv,rfl⟩:=hs
 simp only[Sm] at hv
 obtain⟨b,hb,rfl⟩:=hv
 obtain⟨_,W,b',us,O,Y,hh,Q,h1⟩:=hm.dm (id:=0) (o:=.box (ρ.t 72) [.bp 0 0,.ar 1]) rfl
 rw[hb] at O;cases O
 simp only[zi,Sm] at Q
 obtain⟨_,_,rfl,⟨b2,T,rfl⟩,_,_,rfl,rfl,rfl⟩:=Q
 rw[hb] at T;cases T
 obtain⟨_,_,xs,hx,Z,H0⟩:=hm.dm (id:=1) (o:=.aQ (ρ.t 5) 1 (yJ s)) rfl
 have H:(yJ s).length=s.data.toList.length:=by rw[Un];rfl
 have A:s.data.toList.length=s.size:=rfl
 rcases hx.1.2 with⟨_,h0⟩ | ⟨g,cap,cur,hg,_,B,F,K,C,H1⟩
 .rw[Un] at h0;exact absurd h0 M
 have G:=(hx.2 g (by rw[hg];rfl)).1
 rw[hg,H] at hh
 have I:xs=s.data.toList.map λc=>Value.int .u8 (c.toNat:Int):=by
  have:=Bm (w:=w) (E:=Ex X β _) (ns:=s.data.toList.map λc=>(c.toNat:Int)) (news:=xs) (by simpa[yJ,rW,rZ] using Z)
  simpa[rW,rZ] using this
 have J:(⟨s.data.toList.toArray⟩:ByteArray)=s:=by simp
 refine(zr8 L X2 b g cap _ cur s.data.toList w hh B (λe=>M (by rw[<-A,e];rfl)) (by rw[<-H];exact F) K (by simpa using C) ?_).mono ?_
 .intro j x hj
  have:=hx.1.cells (g:=g) (by rw[hg];rfl) j (.int .u8 (x.toNat:Int)) (by rw[I];simp[hj])
  exact this
 rintro e w' ⟨rfl,rfl⟩
 obtain⟨f1,f2,f3,f4⟩:=zcq w.drew ⟨g,0,none⟩ s.data.toList.length
 have N:∀ c,¬Ex X β [(0,.box (ρ.t 72) [.bp 0 0,.ar 1]),(1,.aQ (ρ.t 5) 1 (yJ s))] c->c≠g:=λc hc e=>hc (.inr ⟨1,.aQ (ρ.t 5) 1 (yJ s),by simp,by rw[hg,e];rfl⟩)
 have hk:cR w0 (w.drew.freeze ⟨g,0,none⟩ s.data.toList.length):=
  hm.below.k_ f2 f3 f4 (by rw[ze6];exact nJ _) (λk hk hn=>Ri w.drew g _ k (λe=>hn (by rw[e];exact G))) (λ_=>by rw[f1];exact rr _)
 have S:ax X w0 {(yW [(0,.box (ρ.t 72) [.bp 0 0,.ar 1]),(1,.aQ (ρ.t 5) 1 (yJ s))] 2 2 []) with own:=[]} β vv (w.drew.freeze ⟨g,0,none⟩ s.data.toList.length):=by
  refine hm.step (next':=2) (nJ _) hm.cB (λ_ _=>rfl) hk (by simp) (λid o h=>by cases h) (λi x j y c hx=>by cases hx) ?_
  intro c H2 V;refine⟨λh=>V (h.elim .inl λ⟨i,x,hx,e⟩=>by cases hx),Ri w.drew g _ c (N c V)⟩
 refine⟨β,_,rfl,S,by simp[ah.lo],?_⟩
 simp only[Sm,R,J]
end
end Go.V
namespace Go.V
variable [Dr] [Ov]
open Go.RowKit
section
variable {P:Program}
end
end Go.V

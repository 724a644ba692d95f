/- A program logic of my own over the kit: part W3. It needs no conditions. -/
import Derived.Test.YtknekjalbninmaaGreatW2
set_option linter.unusedVariables false
set_option linter.unusedSimpArgs false
set_option linter.unusedSectionVars false
namespace Go.V
variable [Dr] [Ov]
open Go.RowKit
section
variable {P:Program} {X:Nat->Prop} {w0:Base} {st:St} {β:Nat->Value} {a:Act} {w w':World} {E:Nat->Prop}
end
end Go.V
namespace Go.V
variable [Dr] [Ov]
open Go.RowKit
section
variable {P:Program} {X:Nat->Prop} {w0:Base} {st S S1:St} {β:Nat->Value} {a:Act} {w w':World} {all:List Oper} {Lb:Array Bool} {m:Nat}
end
end Go.V
namespace Go.V
variable [Dr] [Ov]
open Go.RowKit
def hidL(ids:List Nat)(st:St):St:={st with own:=st.own.filter λx=>!ids.contains x.1}
def Nb(P:Program)(all:List Oper)(n0:Nat)(ids:List Nat):List Oper->St->List Sym->(St->List Sym->Prop)->Prop
 | [],st,ss,K=>K st ss
 |o::r,st,ss,K=>yf o.dst st.n=true/\j3 P all o (hidL ids st) (λs=>Sym.lo n0 s/\Nb P all n0 ids r (st.put o.dst s) (s::ss) K)
section
variable {P:Program} {all:List Oper} {st:St} {Q:DE->St->Prop}
theorem Nc{f:Nat}{fn:Func}{c:Code}(J:P.funcs[f]?=some fn)(L:fn.body=some c)(H:callable P f=true){args:List Sym}{own:List (Nat×Obj')}{n:Nat}{s:Sym}{nx:Nat}{own':List (Nat×Obj')}{mv:List Nat}(M:Sym.los n args)
  (h:uV P c (jh (u0 P fn.results.toList n s nx own' mv)) (initC fn.ntmps args own n)):zJ P f args own n s nx own' mv:=by
 refine⟨H,λX w0 β w vs hβ O hs=>?_⟩
 have E:w0.dfs=[]:=O.defers.symm
 refine(callsIn_wide (n:=0)).1 (callsIn_of_wp_marks (F:=Fence.wide) (n:=0) J L trivial ?_)
 refine wpIn_mono (h X w0 _ _ w 0 (O.initC hs M)) ?_
 have fin:∀ {st' β' ms' a' w'},u0 P fn.results.toList n s nx own' mv st'->MX X w0 ms' st' β' a' w'->LeavesInM Fence.wide 0 P fn a'.tmps (λe w'=>∃ β' v,e = .returned v/\Mods X w0 (xk own' n nx mv) β' vE w'/\Sym.lo nx s/\Sm w' (Ex X β' own') β' s v) a'.defers .returning w':=by
  intro st0 β' ms' a' w' Q G;rw[G.defers,E,List.append_nil];refine FG E G λa2 w2 ea K=>?_
  obtain⟨v,T,V,Y,Z⟩:=kD O.defers K Q;rw[<-ea];exact⟨v,T,β',v,rfl,V,Y,Z⟩
 rintro e a' w' ⟨de,st',β',ms',A,Q,G⟩
 cases e <;> cases de <;> simp only[yw] at A
 .exact fin Q G
 .exact Q.elim
 .exact fin Q G
attribute [simp] Nb hidL
end
end Go.V
namespace Go.V
variable [Dr] [Ov]
open Go.RowKit
def zis(P:Program)(f:Nat)(args:List D)(v:Value):Prop:=
 callable P f=true/\∀ (w:World) (E:Nat->Prop) (vs:List Value),Seen w E->zK w E args vs->Calls P f vs.toArray w λe w'=>e = .panicked [{v,recovered:=false}]/\Below w.heap.size w w'
def Nf(P:Program):List Oper->St->(Value->St->Prop)->Prop
 | [],_,_=>False
 |o::r,st,K=>o.guard=none/\match r with
  | []=>∃ f xs ts g ds lent v,o.op = .call {callee:=.value f,args:=xs,argTypes:=ts}/\wP st f xs.toList=some (g,ds,lent)/\zis P g ds v/\K v st
  |_::_=>yp P o st (λst'=>Nf P r st' K)
section
variable {P:Program} {X:Nat->Prop} {w0:Base} {st:St} {β:Nat->Value} {a:Act} {w w':World} {Q:DE->St->Prop} {Qp:Value->St->Prop}
end
attribute [simp] Nf
end Go.V
namespace Go.V
variable [Dr] [Ov]
open Go.RowKit
section
variable {P:Program} {X:Nat->Prop} {w0:Base} {st:St} {β:Nat->Value} {a:Act} {w w':World} {Q:Exit->Act->List Frame->World->Prop} {ops:Array Oper} {cs cs':List Frame} {i:Nat} {rest:List Nat} {o:Oper}
def Ng(P:Program):List Oper->St->(St->Prop)->Prop
 | [],st,K=>K st
 |o::r,st,K=>o.guard=none/\yp P o st (λst'=>Ng P r st' K)
end
attribute [simp] Ng
end Go.V

/- Contracts and plain laws of this seat: part MA. It needs no conditions. -/
import Derived.Test.YtgglheknmlfghaaGreatM9
set_option linter.unusedVariables false
set_option linter.unusedSimpArgs false
set_option linter.unusedSectionVars false
set_option maxRecDepth 100000
namespace Go.V
open Go Go.Proofs
def St.unmv (st : St) : St := { st with moved := st.moved.filter (fun i => decide (i < st.base)) }
theorem Mods.unmv {X : Nat → Prop} {w0 : Base} {st : St} {β : Nat → Value} {a : Act} {w : World} (hm : Mods X w0 st β a w) : Mods X w0 st.unmv β a w :=
 { hm with still := ⟨hm.still.1, fun id hid hk => hm.still.2 id hid (fun hmem => hk (List.mem_filter.2 ⟨hmem, decide_eq_true hid⟩))⟩ }
def unmR (Q : St → Prop) : St → Prop := fun st => Q st.unmv
theorem zh7 {P : Program} (hmix : P.follows .mixedOrders = true) {f : Nat} {fn : Func} {c : Code} (hf : P.funcs[f]? = some fn) (hb : fn.body = some c) (hcall : callable P f = true)
  {args : List Sym} {own : List (Nat × Obj')} {n : Nat} {s : Sym} {nx : Nat} {own' : List (Nat × Obj')} {mv : List Nat} (hl : Sym.los n args)
  (h : ev P c (atRet (unmR (resC P fn.results.toList n s nx own' mv))) (initC fn.ntmps args own n)) : CallC P f args own n s nx own' mv := by
 refine ⟨hcall, fun X w0 β w vs hβ hm hs => ?_⟩
 refine calls_of_wp hf hb ?_
 refine wp_mono (zaf hmix h X w0 _ _ w (hm.initC hs hl)) ?_
 rintro e a' w' ⟨de, st', β', he, hq, hm'⟩
 cases e <;> cases de <;> simp only [exM] at he
 ·obtain ⟨v, h1, h2, h3, h4⟩ := zcg hm'.unmv hq
  exact ⟨hm'.defers, v, h1, β', v, rfl, h2, h3, h4⟩
 ·exact hq.elim
 ·obtain ⟨v, h1, h2, h3, h4⟩ := zcg hm'.unmv hq
  exact ⟨hm'.defers, v, h1, β', v, rfl, h2, h3, h4⟩
end Go.V
namespace Go.V
open Go Go.Proofs
section
variable {σ α : Type}
end
end Go.V
namespace Go.V
open Go Go.Proofs
end Go.V
namespace Go.V
open Go Go.Proofs
end Go.V

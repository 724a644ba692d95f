/- What the reckoner knows of the program: closed facts. The chapter's examples, awake(), are true: reckoned by the kernel. -/
import Derived.Test.YtgglheknmlfghaaGreatX9
import Derived.Test.YtgglheknmlfghaaGreatC0
import Derived.Test.YtgglheknmlfghaaGreatProg
import Derived.KernelRfl
namespace Go.V
open Go Go.Proofs
set_option maxRecDepth 100000
/-- A function with one result, a number, a truth or a string. -/
def scD (P : Program) (f : Nat) : Bool := match P.funcs[f]? with
  | some fn => match fn.resultTypes.toList with
    | [T] => (match TI.of P T with
      | some ⟨.int _, _, _, _, _⟩ => true
      | some ⟨.bool, _, _, _, _⟩ => true
      | some ⟨.str, _, _, _, _⟩ => true
      | _ => false)
    | _ => false
  | none => false
def fnD (P : Program) (f : Nat) : Option (Nat × Code × List ResultVar) := match P.funcs[f]? with
  | some fn => match fn.body with
    | some c => some (fn.ntmps, c, fn.results.toList)
    | none => none
  | none => none
def mkG (P : Program) : XG := ⟨fun t => TI.of P t, fun t => zfit P t, fun t => eqKinds P t, fnD P, scD P, fun _ => none, fun _ => none, fun _ => false⟩
def allCan (P : Program) : Bool := (List.range P.funcs.size).all fun f => match P.funcs[f]? with
  | some fn => fn.name != "runtime.NumGoroutine"
  | none => true
theorem mkG_good {P : Program} (h : allCan P = true) : XGood P (mkG P) := by
  refine ⟨fun h => h, fun h => h, fun h => h, ?_, fun h => (by cases h), fun h => (by cases h)⟩
  intro f n c rs hf
  have hf : fnD P f = some (n, c, rs) := hf
  unfold fnD at hf
  split at hf
  · rename_i fn hfn
    split at hf
    · rename_i c' hb
      cases hf
      refine ⟨?_, fn, hfn, hb, rfl, rfl⟩
      unfold allCan at h
      have hlt : f < P.funcs.size := by
        obtain ⟨h1, _⟩ := Array.getElem?_eq_some_iff.1 hfn
        exact h1
      have := (List.all_eq_true.1 h) f (List.mem_range.2 hlt)
      rw [hfn] at this
      unfold callable
      rw [hfn]
      simp only at this ⊢
      rw [this, hb]
      rfl
    · cases hf
  · cases hf
theorem can_all : allCan Tryz.prog = true := by kernel_rfl
theorem mixed_X : Tryz.prog.follows .mixedOrders = true := by kernel_rfl
def isT (r : Option XR) : Bool := match r with
  | some ⟨.d (.bool true), _, _, _⟩ => true
  | _ => false
theorem pure_of_isT {f k : Nat} (h : isT (xcall (mkG Tryz.prog) (xdraw (mkG Tryz.prog)) k f [] [] 0) = true) : PureR Tryz.prog f [] (.bool true) := by
  have hg := run_sound mixed_X (mkG_good can_all) k
  unfold isT at h
  split at h
  · rename_i nx own mv hr
    have := hg _ _ _ _ _ hr (by simp [Sym.los])
    exact pureR_of_callC (ds := []) this
  · cases h
theorem awake_run : isT (xcall (mkG Tryz.prog) (xdraw (mkG Tryz.prog)) 50 14 [] [] 0) = true := by kernel_rfl
theorem awake_R : PureR Tryz.prog 14 [] (.bool true) := pure_of_isT awake_run
end Go.V

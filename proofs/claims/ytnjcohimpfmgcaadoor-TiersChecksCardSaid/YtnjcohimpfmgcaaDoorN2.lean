/- The library's sorts at notes. -/
import Derived.Test.YtnjcohimpfmgcaaDoorN1
import Derived.Test.YtnjcohimpfmgcaaDoorSh
set_option linter.unusedSimpArgs false
set_option linter.unusedVariables false
set_option maxRecDepth 100000
namespace Go.V
open Go Go.Proofs Go.Sort Go.RowKit
def ltN : Nt → Nt → Bool := ltOf cmpN
theorem enters_order : ∀ args w, (callFunc 44 args).run Tryd.prog w = .ok (.enter 44 args) w := enters_of Tryd.func44 (by kernel_rfl) rfl
theorem isAggN : ∀ w, (isAgg 39).run Tryd.prog w = .ok true w := fun w => by kernel_rfl
theorem sizeOfN : ∀ w, (Go.sizeOf 39).run Tryd.prog w = .ok 7 w := fun w => by kernel_rfl
def insLoop : Nat → Nat → Array Nt → Array Nt
  | 0, _, d => d
  | k + 1, i, d => insLoop k (i + 1) (insInner ltN 0 i d)
theorem insOuter_loop (b : Nat) : ∀ (k i : Nat) (d : Array Nt), k = b - i → insOuter ltN 0 b i d = insLoop k i d
  | 0, i, d, h => by unfold insOuter; rw [if_neg (by omega)]; rfl
  | k + 1, i, d, h => by unfold insOuter; rw [if_pos (by omega), insOuter_loop b k (i + 1) _ (by omega)]; rfl
/-- What the insertion sort makes of notes. -/
def isort (l : List Nt) : List Nt := (insLoop (l.length - 1) 1 l.toArray).toList
theorem isort_eq (l : List Nt) : (Sort.insertionSort ltN l.toArray 0 l.length) = (isort l).toArray := by
  unfold Sort.insertionSort isort
  rw [insOuter_loop l.length (l.length - 1) (0 + 1) _ (by omega)]
theorem ins_ok (T : Nat) (l : List Nt) (hne : l ≠ []) (hl : l.length < 4611686018427387904) (hs : (isort l).length = l.length) :
    CallC Tryd.prog 84 [.ar 0, .d (int 0), .d (int l.length), .fn 44 []] [(0, .arr T 7 (l.map Nt.row))] 1 (.d (.tup [])) 1 [(0, .arr T 7 ((isort l).map Nt.row))] [] := by
  refine sort_bridge nt_enc call_84 hne hs ?_
  intro w E β vs hvs hseen g cap hg hE hH
  simp only [Sms, Sm, R, int] at hvs
  obtain ⟨_, _, rfl, rfl, _, _, rfl, rfl, _, _, rfl, ⟨_, rfl, rfl⟩, rfl⟩ := hvs
  have := AnyQ.insertionSortCmpFunc Tryd.insNote 7 isAggN sizeOfN Nt.enc nt_enc.len nt_enc.one cmpN 44 #[] g 0 cap 0 l.length l.toArray w enters_order
    (order_lays hseen hE) hH hg (Nat.zero_le _) (by simp) (by simpa using hl)
  change Calls Tryd.prog 84 _ _ _ at this
  rw [show ltOf cmpN = ltN from rfl, isort_eq] at this
  simpa using this
theorem ins_nil : CallC Tryd.prog 84 [.d (.sl []), .d (int 0), .d (int 0), .fn 44 []] [] 0 (.tup []) 0 [] [] := by
  refine callC_of_body mixed Tryd.func84 rfl call_84 (by simp [Sym.los, Sym.lo]) ?_
  simp (decide := true) [Tryd.f84, int]
  refine ⟨by unfold I64; omega, loop_rule mixed (fun _ : Unit => { n := 53, next := 0, slots := [(2, .d (int 0)), (8, .d (int 1))], own := [] })
    (fun _ => True) (fun _ => 0) () trivial (by simp (decide := true) [int]) ?_⟩
  intro _ _
  simp (decide := true) [int]
end Go.V

/- slices.SortFunc at notes, of whatever length. -/
import Derived.Test.YtnjcohimpfmgcaaDoorN2
import Derived.Test.YtnjcohimpfmgcaaDoorK0
import Derived.Test.YtnjcohimpfmgcaaDoorSq
set_option linter.unusedSimpArgs false
set_option linter.unusedVariables false
set_option maxRecDepth 100000
namespace Go.V
open Go Go.Proofs Go.Sort Go.RowKit

theorem ltN_iff {a b : Nt} : ltN a b = true ↔ a.par < b.par ∨ (a.par = b.par ∧ (a.fr < b.fr ∨ (a.fr = b.fr ∧ a.rank < b.rank))) := by
  unfold ltN ltOf cmpN
  rw [decide_eq_true_eq]
  simp only [orI, cmpI]
  repeat' split
  all_goals omega
theorem ltN_false {a b : Nt} : ltN a b = false ↔ ¬ (a.par < b.par ∨ (a.par = b.par ∧ (a.fr < b.fr ∨ (a.fr = b.fr ∧ a.rank < b.rank)))) := by
  rw [← ltN_iff, Bool.not_eq_true]
theorem swoN : SWO ltN where
  irrefl := fun x => by rw [ltN_false]; omega
  trans := fun x y z h1 h2 => by rw [ltN_iff] at *; omega
  ntrans := fun x y z h1 h2 => by rw [ltN_false] at *; omega
/-- What the sort makes of notes. -/
def sortN (l : List Nt) : List Nt := (pdq ltN l.toArray 0 l.length (Lib.bitLen l.length) true true).toList
theorem sortN_spec (l : List Nt) : PermIn 0 l.length l.toArray (pdq ltN l.toArray 0 l.length (Lib.bitLen l.length) true true) ∧ SortedIn ltN 0 l.length (pdq ltN l.toArray 0 l.length (Lib.bitLen l.length) true true) :=
  pdq_sorts ltN swoN l.toArray 0 l.length (Lib.bitLen l.length) true true (Nat.zero_le _) (by simp) (Or.inl rfl)
theorem sortN_length (l : List Nt) : (sortN l).length = l.length := by
  have := (sortN_spec l).1.1
  unfold sortN
  rw [Array.length_toList, this]; simp
theorem sortN_perm (l : List Nt) : (sortN l).Perm l := by
  obtain ⟨h1, _, h3⟩ := (sortN_spec l).1
  unfold sortN
  generalize pdq ltN l.toArray 0 l.length (Lib.bitLen l.length) true true = A at h1 h3
  have e1 : A.extract 0 l.length = A := by rw [show l.length = A.size by rw [h1]; simp]; simp
  have e2 : l.toArray.extract 0 l.length = l.toArray := by rw [show l.length = l.toArray.size by simp]; simp
  rw [e1, e2] at h3
  simpa using h3
theorem sortN_sorted (l : List Nt) : (sortN l).Pairwise fun a b => ltN b a = false := by
  have hs := (sortN_spec l).2
  have hl := sortN_length l
  unfold sortN at hl ⊢
  generalize pdq ltN l.toArray 0 l.length (Lib.bitLen l.length) true true = A at hs hl
  rw [List.pairwise_iff_getElem]
  intro i j hi hj hij
  rw [Array.length_toList] at hl
  have := hs i j (Nat.zero_le _) hij (by rw [Array.length_toList] at hj; omega)
  rw [Array.length_toList] at hi hj
  simpa [getElem!_pos, hi, hj] using this
theorem sort_ok (T : Nat) (l : List Nt) (hne : l ≠ []) (hl : l.length < 4611686018427387904) :
    CallC Tryd.prog 53 [.ar 0, .fn 44 []] [(0, .arr T 7 (l.map Nt.row))] 1 (.d (.tup [])) 1 [(0, .arr T 7 ((sortN l).map Nt.row))] [] := by
  refine sort_bridge nt_enc call_53 hne (sortN_length l) ?_
  intro w E β vs hvs hseen g cap hg hE hH
  simp only [Sms, Sm, R, int] at hvs
  obtain ⟨_, _, rfl, ⟨_, rfl, rfl⟩, rfl⟩ := hvs
  have := AnyQ.slices_SortFunc_eq Tryd.sortNote 7 isAggN sizeOfN Nt.enc nt_enc.len nt_enc.one cmpN swoN 44 #[] g 0 cap l.toArray w enters_order
    (order_lays hseen hE) hH hg (by simpa using hl)
  change Calls Tryd.prog 53 _ _ _ at this
  have e : (pdq (ltOf cmpN) l.toArray 0 l.toArray.size (Lib.bitLen l.toArray.size) true true) = (sortN l).toArray := by
    unfold sortN ltN; simp
  rw [e] at this
  simpa using this
abbrev noNotes : List (Nat × Obj') := [(0, .arr 39 7 [])]
theorem insE_ok : CallC Tryd.prog 84 [.ar 0, .d (int 0), .d (int 0), .fn 44 []] noNotes 1 (.tup []) 1 noNotes [] := by
  refine callC_of_body mixed Tryd.func84 rfl call_84 (by simp [Sym.los, Sym.lo]) ?_
  simp (decide := true) [Tryd.f84, int]
  refine ⟨by unfold I64; omega, loop_rule mixed (fun _ : Unit => { n := 53, next := 1, slots := [(2, .d (int 0)), (8, .d (int 1))], own := noNotes, base := 1 })
    (fun _ => True) (fun _ => 0) () trivial (by simp (decide := true) [int]) ?_⟩
  intro _ _
  simp (decide := true) [int]
theorem len0_ok : PureR Tryd.prog 77 [.int .u64 0] (int 0) := by
  have hg := run_sound mixed_X (mkG_good can_all) 8
  have hr : xcall (mkG Tryd.prog) (xdraw (mkG Tryd.prog)) 8 77 [.d (.int .u64 0)] [] 0 = some ⟨.d (int 0), 0, [], []⟩ := by kernel_rfl
  exact pureR_of_callC (ds := [.int .u64 0]) (hg _ _ _ _ _ hr (by simp [Sym.los, Sym.lo]))
theorem pdqE_ok : CallC Tryd.prog 76 [.ar 0, .d (int 0), .d (int 0), .d (int 0), .fn 44 []] noNotes 1 (.tup []) 1 noNotes [] := by
  refine callC_of_body mixed Tryd.func76 rfl call_76 (by simp [Sym.los, Sym.lo]) ?_
  simp (decide := true) [Tryd.f76, int]
  refine loop_rule mixed (fun _ : Unit => { n := 148, next := 1, slots := [(0, .ar 0), (1, .d (int 0)), (2, .d (int 0)), (4, .fn 44 [])], own := noNotes, base := 1 })
    (fun _ => True) (fun _ => 0) () trivial (by simp (decide := true) [int]) ?_
  intro _ _
  simp (decide := true) [int]
  refine ⟨by unfold I64; omega, ?_⟩
  refine ECall.mut [0] [.ar 0, .d (int 0), .d (int 0), .fn 44 []] noNotes (by rfl) (by simp [int]) (by simp) (by simp) insE_ok ?_
  simp (decide := true) [int]
theorem sort_nil : CallC Tryd.prog 53 [.ar 0, .fn 44 []] noNotes 1 (.tup []) 1 noNotes [] := by
  refine callC_of_body mixed Tryd.func53 rfl call_53 (by simp [Sym.los, Sym.lo]) ?_
  have w0 : IntKind.wrap .u64 0 = 0 := by decide
  simp (decide := true) [Tryd.f53, int, eBytes, w0]
  refine ECall.pure (by rfl) len0_ok (by simp [int]) ?_
  simp (decide := true) [int]
  refine ECall.mut [0] [.ar 0, .d (int 0), .d (int 0), .d (int 0), .fn 44 []] noNotes (by rfl) (by simp [int]) (by simp) (by simp) pdqE_ok ?_
  simp (decide := true) [int]
theorem CallC.unit {P : Program} {f : Nat} {args : List Sym} {own : List (Nat × Obj')} {n nx : Nat} {own' : List (Nat × Obj')} {mv : List Nat} (h : CallC P f args own n (.tup []) nx own' mv) : CallC P f args own n (.d (.tup [])) nx own' mv := by
  refine ⟨h.1, fun X w0 β w vs hβ hm hs => (h.2 X w0 β w vs hβ hm hs).mono fun e w' he => ?_⟩
  obtain ⟨β', v, h1, h2, h3, h4⟩ := he
  refine ⟨β', v, h1, h2, by simp [Sym.lo], ?_⟩
  simp only [Sm, Sms] at h4
  obtain ⟨vs', rfl, rfl⟩ := h4
  simp [Sm, R, Rvals]
theorem sort_all (l : List Nt) (hl : l.length < 4611686018427387904) :
    CallC Tryd.prog 53 [.ar 0, .fn 44 []] [(0, .arr 39 7 (l.map Nt.row))] 1 (.d (.tup [])) 1 [(0, .arr 39 7 ((sortN l).map Nt.row))] [] := by
  cases l with
  | nil =>
    have : sortN [] = [] := List.eq_nil_of_length_eq_zero (sortN_length [])
    rw [this]
    exact sort_nil.unit
  | cons a r => exact sort_ok 39 (a :: r) (by simp) hl
end Go.V

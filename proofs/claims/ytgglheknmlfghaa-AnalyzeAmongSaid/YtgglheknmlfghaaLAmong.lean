/- 'AnalyzeAmong' of chapter 30: whatever the arguments, the law returns true, the arguments read as before. -/
import Derived.Test.YtgglheknmlfghaaRows
import Derived.WalkKit
import Derived.ProofKit
import Derived.OpenShut
import Derived.ShutString
import Derived.ChangeOld
import Derived.Below
import Derived.Test.YtgglheknmlfghaaA0
import Derived.Test.YtgglheknmlfghaaD0
namespace Go.Proofs.Ytgglheknmlfghaa
open Go.ChangeShapes Go.WideShapes Go.ChangeAt Go.RowKit Go.V
open Go.ChangeMaps (open_string shut_string)
set_option linter.unusedVariables false
set_option maxRecDepth 100000

theorem own : ownKnob Try.prog.godebug = none := by kernel_rfl
theorem laidOut : laidOutB Try.prog = true := by kernel_rfl
theorem shapes_l : shapes Try.prog 8 22 = some [.sl [.sl prtSh]] := by kernel_rfl
theorem shapes_a : shapes Try.prog 8 25 = some [.sl prtSh] := by kernel_rfl

theorem walk {xs : List D} (h : FitArgs Try.prog 8 [22, 25] xs) : PureR Try.prog 3 xs (.bool true) := by
  simp only [FitArgs] at h
  obtain ⟨d, r, rfl, h1, e, r', rfl, h2, rfl⟩ := h
  unfold FitT at h1 h2
  rw [Try.underlying22] at h1
  rw [Try.underlying25] at h2
  obtain ⟨s, hs, h1⟩ := h1
  obtain ⟨l, shs, rfl, hs', h2⟩ := h2
  rw [shapes_l] at hs
  rw [shapes_a] at hs'
  cases hs; cases hs'
  obtain ⟨l', rfl, hl, hall⟩ := anas_decode h1
  obtain ⟨a, ha, hok⟩ := ana_decode h2
  rw [ha]
  exact law_among l' a

theorem lifted (os : Os) (started : os.Started) (H : Type) (enc : TypeId × Value → H) :
    ReturnsInHanded {} Try.checked os 3 .any (Rows.analyzeAmongSpec.pre6 enc Try.prog Try.f3 Rows.analyzeAmongRow.domain false) (Rows.analyzeAmongSpec.post enc Try.prog Try.f3 false true false false) := by
  refine returnsInHanded_of_change (C := Try.checked) own started (by kernel_rfl) Try.func3
    (ChangeSpec.witness6 (enc := enc) (C := Try.checked) false ⟨#[], #[.slice none 0 0, .agg #[.slice none 0 0]], []⟩ 8 (by kernel_rfl) (by kernel_rfl) (by kernel_rfl) (by kernel_rfl)) ?_
  intro W base args ds gs before hval0 hW hcnd _
  have hval : ∀ (j : Nat) t v, Try.f3.params[j]? = some t → args[j]? = some v → Value.okWide Try.prog W .any base t v := hval0
  have hW' := hW
  obtain ⟨p, q, hA0, hV, rfl, hfz, hnd⟩ := hW
  have hA : DataW.TrodAll enc Try.prog W 0 (fun _ => true) true Try.f3.params.toList args.toList ds p := hA0
  rw [Try.params3] at hA hval
  have hA1 := hA
  obtain ⟨v0, vs0, d0, ds0, p0, q0, hargs, rfl, rfl, h0, r0⟩ := trodAll_cons hA1
  obtain ⟨v1, vs1, d1, ds1, p1, q1, rfl, rfl, rfl, h1, r1⟩ := trodAll_cons r0
  obtain ⟨rfl, rfl, rfl⟩ := trodAll_nil r1
  obtain rfl : args = #[v0, v1] := by cases args; simp_all
  obtain ⟨rfl, rfl⟩ := trodVars_none hV
  obtain ⟨xs, hfit, hr⟩ := args_read (n := 8) (P := Try.prog) (ts := [22, 25]) (by
    intro t ht
    simp only [List.mem_cons, List.not_mem_nil, or_false] at ht
    rcases ht with rfl | rfl
    · rw [shapes_l]; rfl
    · rw [shapes_a]; rfl) (fun j t v hj hv => hval j t v (by simpa using hj) (by simpa using hv)) hA
  have hc := (walk hfit).2 W Ez [v0, v1] (fun _ h => h.elim) hr
  refine hc.mono fun e W' ⟨v, he, bel, hR⟩ => ?_
  simp only [R] at hR
  subst he; subst hR
  exact ⟨_, rfl, _, _, _, [], _, [], hW', trodAll_mk1 (shut_bool Try.underlying4 _), trodAll_below (ts := [22, 25]) laidOut bel (by
    intro t ht
    simp only [List.mem_cons, List.not_mem_nil, or_false] at ht
    rcases ht with rfl | rfl
    · exact ⟨by kernel_rfl, of_decide_eq_true (by kernel_rfl)⟩
    · exact ⟨by kernel_rfl, of_decide_eq_true (by kernel_rfl)⟩) hA, rfl, bel.frame _, fun h => by cases h⟩

theorem over : Rows.analyzeAmongRow.holds Try.pinned (OpenSpec.ofChange Rows.analyzeAmongSpec) :=
  OpenClaim.holds_of_wide 3 Try.f3 rfl rfl rfl rfl rfl rfl rfl ⟨rfl, rfl, rfl, rfl, rfl⟩ rfl rfl rfl rfl rfl (by kernel_rfl) Try.func3 (by kernel_rfl)
    (of_decide_eq_true (by kernel_rfl)) (by unfold Func.isWrapper; first | (rw [if_pos (by decide +kernel)]; kernel_rfl) | (rw [if_neg (by decide +kernel)]; exact ⟨rfl, rfl⟩))
    (fun os started H enc _ => lifted os started H enc)

theorem analyzeAmong_holds : Rows.AnalyzeAmongSaid := over
#print axioms analyzeAmong_holds
end Go.Proofs.Ytgglheknmlfghaa

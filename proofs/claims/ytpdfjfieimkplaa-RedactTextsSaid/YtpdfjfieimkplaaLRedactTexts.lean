/- 'RedactTexts' of chapter 46: whatever the arguments, the law returns true, the arguments read as before. -/
import Derived.Test.YtpdfjfieimkplaaRows
import Derived.WalkKit
import Derived.ProofKit
import Derived.OpenShut
import Derived.ShutString
import Derived.ChangeOld
import Derived.Below
import Derived.Test.YtpdfjfieimkplaaMA
namespace Go.Proofs.Ytpdfjfieimkplaa
open Go.ChangeShapes Go.WideShapes Go.ChangeAt Go.RowKit Go.V
open Go.ChangeMaps (open_string shut_string)
set_option linter.unusedVariables false
set_option maxRecDepth 100000

theorem own : ownKnob Try.prog.godebug = none := by kernel_rfl
theorem laidOut : laidOutB Try.prog = true := by kernel_rfl
theorem shapes_doc : shapes Try.prog 8 28 = some docSh := by kernel_rfl
theorem shapes_spans : shapes Try.prog 8 29 = some [.sl spanSh] := by kernel_rfl

theorem walk {xs : List D} (h : FitArgs Try.prog 8 [28, 29] xs) : PureR Try.prog 8 xs (.bool true) := by
  simp only [FitArgs] at h
  obtain ⟨d0, r0, rfl, h0, d1, r1, rfl, h1, rfl⟩ := h
  unfold FitT at h0 h1
  rw [Try.underlying28] at h0
  rw [Try.underlying29] at h1
  obtain ⟨l0, s0, rfl, hs0, h0⟩ := h0
  rw [shapes_doc] at hs0
  cases hs0
  obtain ⟨x0, e0, g0⟩ := doc_decode h0
  rw [e0]
  obtain ⟨s1, hs1, h1⟩ := h1
  rw [shapes_spans] at hs1
  cases hs1
  obtain ⟨x1, rfl, g1⟩ := spans_decode h1
  exact law_texts46 x0 x1 (fun t ht => (g0.tiers.2 t ht).1) (fun n hn => (g0.notes.2 n hn).text)

theorem lifted (os : Os) (started : os.Started) (H : Type) (enc : TypeId × Value → H) :
    ReturnsInHanded {} Try.checked os 8 .any (Rows.redactTextsSpec.pre6 enc Try.prog Try.f8 Rows.redactTextsRow.domain false) (Rows.redactTextsSpec.post enc Try.prog Try.f8 false true false false) := by
  refine returnsInHanded_of_change (C := Try.checked) own started (by kernel_rfl) Try.func8
    (ChangeSpec.witness6 (enc := enc) (C := Try.checked) false ⟨#[], #[.agg #[.int .i64 0, .string ⟨#[]⟩, .int .i64 0, .int .i64 0, .slice none 0 0, .slice none 0 0, .slice none 0 0], .slice none 0 0], []⟩ 8 (by kernel_rfl) (by kernel_rfl) (by kernel_rfl) (by kernel_rfl)) ?_
  intro W base args ds gs before hval0 hW hcnd _
  have hval : ∀ (j : Nat) t v, Try.f8.params[j]? = some t → args[j]? = some v → Value.okWide Try.prog W .any base t v := hval0
  have hW' := hW
  obtain ⟨p, q, hA0, hV, rfl, hfz, hnd⟩ := hW
  have hA : DataW.TrodAll enc Try.prog W 0 (fun _ => true) true Try.f8.params.toList args.toList ds p := hA0
  rw [Try.params8] at hA hval
  have hA1 := hA
  obtain ⟨v0, vs0, d0, ds0, p0, q0, hargs, rfl, rfl, h0, r0⟩ := trodAll_cons hA1
  obtain ⟨v1, vs1, d1, ds1, p1, q1, rfl, rfl, rfl, h1, r1⟩ := trodAll_cons r0
  obtain ⟨rfl, rfl, rfl⟩ := trodAll_nil r1
  obtain rfl : args = #[v0, v1] := by cases args; simp_all
  obtain ⟨rfl, rfl⟩ := trodVars_none hV
  obtain ⟨xs, hfit, hr⟩ := args_read (n := 8) (P := Try.prog) (ts := [28, 29]) (by
    intro t ht
    simp only [List.mem_cons, List.not_mem_nil, or_false] at ht
    rcases ht with rfl | rfl
    · rw [shapes_doc]; rfl
    · rw [shapes_spans]; rfl
    ) (fun j t v hj hv => hval j t v (by simpa using hj) (by simpa using hv)) hA
  have hc := (walk hfit).2 W Ez [v0, v1] ⟨fun _ h => h.elim, Glob.of_nil rfl⟩ hr
  refine hc.mono fun e W' ⟨v, he, bel, hR⟩ => ?_
  simp only [R] at hR
  subst he; subst hR
  exact ⟨_, rfl, _, _, _, [], _, [], hW', trodAll_mk1 (shut_bool Try.underlying4 _), trodAll_below (ts := [28, 29]) laidOut bel (by
    intro t ht
    simp only [List.mem_cons, List.not_mem_nil, or_false] at ht
    rcases ht with rfl | rfl
    · exact ⟨by kernel_rfl, of_decide_eq_true (by kernel_rfl)⟩
    · exact ⟨by kernel_rfl, of_decide_eq_true (by kernel_rfl)⟩
    ) hA, rfl, bel.frame _, fun h => by cases h⟩

theorem over : Rows.redactTextsRow.holds Try.pinned (OpenSpec.ofChange Rows.redactTextsSpec) :=
  OpenClaim.holds_of_wide 8 Try.f8 rfl rfl rfl rfl rfl rfl rfl ⟨rfl, rfl, rfl, rfl, rfl⟩ rfl rfl rfl rfl rfl (by kernel_rfl) Try.func8 (by kernel_rfl)
    (of_decide_eq_true (by kernel_rfl)) (by unfold Func.isWrapper; first | (rw [if_pos (by decide +kernel)]; kernel_rfl) | (rw [if_neg (by decide +kernel)]; exact ⟨rfl, rfl⟩))
    (fun os started H enc _ => lifted os started H enc)

theorem redactTexts_holds : Rows.RedactTextsSaid := over
#print axioms redactTexts_holds
end Go.Proofs.Ytpdfjfieimkplaa

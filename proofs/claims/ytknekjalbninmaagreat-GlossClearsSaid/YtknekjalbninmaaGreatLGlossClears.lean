/- 'GlossClears' of chapter 32: whatever the arguments, the law returns true, the arguments read as before. -/
import Derived.Test.YtknekjalbninmaaGreatRows
import Derived.WalkKit
import Derived.ProofKit
import Derived.OpenShut
import Derived.ShutString
import Derived.ChangeOld
import Derived.Below
import Derived.Test.YtknekjalbninmaaGreatMA
import Derived.Test.YtknekjalbninmaaGreatMC
namespace Go.Proofs.YtknekjalbninmaaGreat
open Go.ChangeShapes Go.WideShapes Go.ChangeAt Go.RowKit Go.V Go.V.Doc
open Go.ChangeMaps (open_string shut_string)
set_option linter.unusedVariables false
set_option maxRecDepth 100000

theorem own : ownKnob Tryz.prog.godebug = none := by kernel_rfl
theorem laidOut : laidOutB Tryz.prog = true := by kernel_rfl
theorem shapes_doc : shapes Tryz.prog 8 53 = some docSh := by kernel_rfl
theorem shapes_int : shapes Tryz.prog 8 3 = some [.int .i64] := by kernel_rfl

theorem walk {xs : List D} (h : FitArgs Tryz.prog 8 [53, 3] xs) : PureR Tryz.prog 5 xs (.bool true) := by
  simp only [FitArgs] at h
  obtain ⟨d0, r0, rfl, h0, d1, r1, rfl, h1, rfl⟩ := h
  unfold FitT at h0 h1
  rw [Tryz.underlying53] at h0
  rw [Tryz.underlying3] at h1
  obtain ⟨l0, s0, rfl, hs0, h0⟩ := h0
  rw [shapes_doc] at hs0
  cases hs0
  obtain ⟨x0, e0, g0⟩ := doc_decode h0
  rw [e0]
  obtain ⟨s1, hs1, h1⟩ := h1
  rw [shapes_int] at hs1
  cases hs1
  obtain ⟨x1, rfl, g1⟩ := int_decode1 h1
  exact law_clears x0 x1 (fun t ht => (g0.tiers.2 t ht).1) (fun n hn => (g0.notes.2 n hn).text)

theorem lifted (os : Os) (started : os.Started) (H : Type) (enc : TypeId × Value → H) :
    ReturnsInHanded {} Tryz.checked os 5 .any (Rows.glossClearsSpec.pre6 enc Tryz.prog Tryz.f5 Rows.glossClearsRow.domain false) (Rows.glossClearsSpec.post enc Tryz.prog Tryz.f5 false true false false) := by
  refine returnsInHanded_of_change (C := Tryz.checked) own started (by kernel_rfl) Tryz.func5
    (ChangeSpec.witness6 (enc := enc) (C := Tryz.checked) false ⟨#[], #[.agg #[.int .i64 0, .string ⟨#[]⟩, .int .i64 0, .int .i64 0, .slice none 0 0, .slice none 0 0, .slice none 0 0], .int .i64 0], []⟩ 8 (by kernel_rfl) (by kernel_rfl) (by kernel_rfl) (by kernel_rfl)) ?_
  intro W base args ds gs before hval0 hW hcnd _
  have hval : ∀ (j : Nat) t v, Tryz.f5.params[j]? = some t → args[j]? = some v → Value.okWide Tryz.prog W .any base t v := hval0
  have hW' := hW
  obtain ⟨p, q, hA0, hV, rfl, hfz, hnd⟩ := hW
  have hA : DataW.TrodAll enc Tryz.prog W 0 (fun _ => true) true Tryz.f5.params.toList args.toList ds p := hA0
  rw [Tryz.params5] at hA hval
  have hA1 := hA
  obtain ⟨v0, vs0, d0, ds0, p0, q0, hargs, rfl, rfl, h0, r0⟩ := trodAll_cons hA1
  obtain ⟨v1, vs1, d1, ds1, p1, q1, rfl, rfl, rfl, h1, r1⟩ := trodAll_cons r0
  obtain ⟨rfl, rfl, rfl⟩ := trodAll_nil r1
  obtain rfl : args = #[v0, v1] := by cases args; simp_all
  obtain ⟨rfl, rfl⟩ := trodVars_none hV
  obtain ⟨xs, hfit, hr⟩ := args_read (n := 8) (P := Tryz.prog) (ts := [53, 3]) (by
    intro t ht
    simp only [List.mem_cons, List.not_mem_nil, or_false] at ht
    rcases ht with rfl | rfl
    · rw [shapes_doc]; rfl
    · rw [shapes_int]; rfl
    ) (fun j t v hj hv => hval j t v (by simpa using hj) (by simpa using hv)) hA
  have hc := (walk hfit).2 W Ez [v0, v1] ⟨fun _ h => h.elim, Glob.of_nil rfl⟩ hr
  refine hc.mono fun e W' ⟨v, he, bel, hR⟩ => ?_
  simp only [R] at hR
  subst he; subst hR
  exact ⟨_, rfl, _, _, _, [], _, [], hW', trodAll_mk1 (shut_bool Tryz.underlying4 _), trodAll_below (ts := [53, 3]) laidOut bel (by
    intro t ht
    simp only [List.mem_cons, List.not_mem_nil, or_false] at ht
    rcases ht with rfl | rfl
    · exact ⟨by kernel_rfl, of_decide_eq_true (by kernel_rfl)⟩
    · exact ⟨by kernel_rfl, of_decide_eq_true (by kernel_rfl)⟩
    ) hA, rfl, bel.frame _, fun h => by cases h⟩

theorem f_named : (Tryz.pinned).checked.prog.funcNamed Rows.glossClearsRow.func = some 5 := by kernel_rfl
theorem c_in : (Tryz.pinned).checked.prog.inPlace 5 = Rows.glossClearsRow.inPlace := by kernel_rfl
theorem c_un : (Tryz.pinned).checked.prog.unfollowed 5 = true := by kernel_rfl
theorem c_re : (Tryz.pinned).checked.prog.recurses 5 = true := by unfold Program.recurses; rw [c_un]; rfl
theorem c_va : (Tryz.pinned).checked.prog.varsNamed 5 = [] := by kernel_rfl
theorem f_closed : joinedFacts (Tryz.pinned).checked.prog 5 Tryz.f5 Rows.glossClearsSpec Rows.glossClearsRow = true := by
  unfold joinedFacts
  rw [c_in, c_un, c_re, c_va]
  kernel_rfl
theorem f_inst : (Tryz.f5).isInstance (Tryz.pinned).checked.prog Rows.glossClearsRow.origin Rows.glossClearsRow.targs := of_decide_eq_true (by kernel_rfl)
theorem f_wrap : (Tryz.f5).isWrapper (Tryz.pinned).checked.prog Rows.glossClearsRow.wrapper Rows.glossClearsRow.mainSum := by
  unfold Func.isWrapper; first | (rw [if_pos (by decide +kernel)]; kernel_rfl) | (rw [if_neg (by decide +kernel)]; exact ⟨rfl, rfl⟩)

theorem over : Rows.glossClearsRow.holds Tryz.pinned (OpenSpec.ofChange Rows.glossClearsSpec) :=
  OpenClaim.holds_of_wide 5 Tryz.f5 (by kernel_rfl) (by kernel_rfl) (by kernel_rfl) (by kernel_rfl) (by kernel_rfl) (by kernel_rfl) (by kernel_rfl) ⟨by kernel_rfl, by kernel_rfl, by kernel_rfl, by kernel_rfl, by kernel_rfl⟩ (by kernel_rfl) (by kernel_rfl) (by kernel_rfl) (by kernel_rfl) (by kernel_rfl) f_named Tryz.func5 f_closed f_inst f_wrap
    (fun os started H enc _ => lifted os started H enc)

theorem glossClears_holds : Rows.GlossClearsSaid := over
#print axioms glossClears_holds
end Go.Proofs.YtknekjalbninmaaGreat

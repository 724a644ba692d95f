/- 'DecideRight' of chapter 31: whatever the arguments, the law returns true, the arguments read as before. -/
import Derived.Test.YtmpknkjlhapcmaaGreatRows
import Derived.WalkKit
import Derived.ProofKit
import Derived.OpenShut
import Derived.ShutString
import Derived.ChangeOld
import Derived.Below
import Derived.Test.YtmpknkjlhapcmaaGreatE14
import Derived.Test.YtmpknkjlhapcmaaGreatD1
namespace Go.Proofs.YtmpknkjlhapcmaaGreat
open Go.ChangeShapes Go.WideShapes Go.ChangeAt Go.RowKit Go.V
open Go.ChangeMaps (open_string shut_string)
set_option linter.unusedVariables false
set_option maxRecDepth 100000

theorem own : ownKnob Tryz.prog.godebug = none := by kernel_rfl
theorem laidOut : laidOutB Tryz.prog = true := by kernel_rfl
theorem shapes_decs : shapes Tryz.prog 8 22 = some [.sl decSh] := by kernel_rfl
theorem shapes_dec : shapes Tryz.prog 8 33 = some decSh := by kernel_rfl

theorem walk {xs : List D} (h : FitArgs Tryz.prog 8 [22, 33] xs) : PureR Tryz.prog 9 xs (.bool true) := by
  simp only [FitArgs] at h
  obtain ⟨d0, r0, rfl, h0, d1, r1, rfl, h1, rfl⟩ := h
  unfold FitT at h0 h1
  rw [Tryz.underlying22] at h0
  rw [Tryz.underlying33] at h1
  obtain ⟨s0, hs0, h0⟩ := h0
  rw [shapes_decs] at hs0
  cases hs0
  obtain ⟨x0, rfl, g0⟩ := decs_decode h0
  obtain ⟨l1, s1, rfl, hs1, h1⟩ := h1
  rw [shapes_dec] at hs1
  cases hs1
  obtain ⟨x1, e1, g1⟩ := dec_decode h1
  rw [e1]
  exact law_right x0 x1

theorem lifted (os : Os) (started : os.Started) (H : Type) (enc : TypeId × Value → H) :
    ReturnsInHanded {} Tryz.checked os 9 .any (Rows.decideRightSpec.pre6 enc Tryz.prog Tryz.f9 Rows.decideRightRow.domain false) (Rows.decideRightSpec.post enc Tryz.prog Tryz.f9 false true false false) := by
  refine returnsInHanded_of_change (C := Tryz.checked) own started (by kernel_rfl) Tryz.func9
    (ChangeSpec.witness6 (enc := enc) (C := Tryz.checked) false ⟨#[], #[.slice none 0 0, .agg #[.int .i64 0, .int .i64 0, .bool false, .slice none 0 0]], []⟩ 8 (by kernel_rfl) (by kernel_rfl) (by kernel_rfl) (by kernel_rfl)) ?_
  intro W base args ds gs before hval0 hW hcnd _
  have hval : ∀ (j : Nat) t v, Tryz.f9.params[j]? = some t → args[j]? = some v → Value.okWide Tryz.prog W .any base t v := hval0
  have hW' := hW
  obtain ⟨p, q, hA0, hV, rfl, hfz, hnd⟩ := hW
  have hA : DataW.TrodAll enc Tryz.prog W 0 (fun _ => true) true Tryz.f9.params.toList args.toList ds p := hA0
  rw [Tryz.params9] at hA hval
  have hA1 := hA
  obtain ⟨v0, vs0, d0, ds0, p0, q0, hargs, rfl, rfl, h0, r0⟩ := trodAll_cons hA1
  obtain ⟨v1, vs1, d1, ds1, p1, q1, rfl, rfl, rfl, h1, r1⟩ := trodAll_cons r0
  obtain ⟨rfl, rfl, rfl⟩ := trodAll_nil r1
  obtain rfl : args = #[v0, v1] := by cases args; simp_all
  obtain ⟨rfl, rfl⟩ := trodVars_none hV
  obtain ⟨xs, hfit, hr⟩ := args_read (n := 8) (P := Tryz.prog) (ts := [22, 33]) (by
    intro t ht
    simp only [List.mem_cons, List.not_mem_nil, or_false] at ht
    rcases ht with rfl | rfl
    · rw [shapes_decs]; rfl
    · rw [shapes_dec]; rfl
    ) (fun j t v hj hv => hval j t v (by simpa using hj) (by simpa using hv)) hA
  have hc := (walk hfit).2 W Ez [v0, v1] (fun _ h => h.elim) hr
  refine hc.mono fun e W' ⟨v, he, bel, hR⟩ => ?_
  simp only [R] at hR
  subst he; subst hR
  exact ⟨_, rfl, _, _, _, [], _, [], hW', trodAll_mk1 (shut_bool Tryz.underlying4 _), trodAll_below (ts := [22, 33]) laidOut bel (by
    intro t ht
    simp only [List.mem_cons, List.not_mem_nil, or_false] at ht
    rcases ht with rfl | rfl
    · exact ⟨by kernel_rfl, of_decide_eq_true (by kernel_rfl)⟩
    · exact ⟨by kernel_rfl, of_decide_eq_true (by kernel_rfl)⟩
    ) hA, rfl, bel.frame _, fun h => by cases h⟩

theorem over : Rows.decideRightRow.holds Tryz.pinned (OpenSpec.ofChange Rows.decideRightSpec) :=
  OpenClaim.holds_of_wide 9 Tryz.f9 rfl rfl rfl rfl rfl rfl rfl ⟨rfl, rfl, rfl, rfl, rfl⟩ rfl rfl rfl rfl rfl (by kernel_rfl) Tryz.func9 (by kernel_rfl)
    (of_decide_eq_true (by kernel_rfl)) (by unfold Func.isWrapper; first | (rw [if_pos (by decide +kernel)]; kernel_rfl) | (rw [if_neg (by decide +kernel)]; exact ⟨rfl, rfl⟩))
    (fun os started H enc _ => lifted os started H enc)

theorem decideRight_holds : Rows.DecideRightSaid := over
#print axioms decideRight_holds
end Go.Proofs.YtmpknkjlhapcmaaGreat
